/-
  A further rule, plainly: AlignMoreRules. NO PROGRAM IN THIS TEXT.
-/
import Derived.Test.YthibphklchalkaaDoorZAlLaws
namespace Al
open Go.Proofs.YthibphklchalkaaDoor Go.Proofs.YthibphklchalkaaDoor.Al

/-- the table with a further rule -/
def moreT (t : Rw.Table) (r : Rw.Rule) : Rw.Table := { t with rules := t.rules ++ [r] }

theorem side_more (t : List Rw.Rule) (r : Rw.Rule) (k : Int) (x : List UInt8) : (side t k x = none ∧ side (t ++ [r]) k x = none) ∨
    ∃ S S', side t k x = some S ∧ side (t ++ [r]) k x = some S' ∧ S'.letters = S.letters ∧ S.rules <+: S'.rules := by
  unfold side
  cases h : Sc.lets k x with
  | none => exact .inl ⟨rfl, rfl⟩
  | some l =>
    simp only
    cases h2 : Sc.lets k (Sc.fold x) with
    | none => exact .inl ⟨rfl, rfl⟩
    | some m =>
      refine .inr ⟨_, _, rfl, rfl, rfl, ?_⟩
      simp only
      rw [rulesFrom_append]
      exact List.prefix_append _ _

theorem open_more {t : Rw.Table} {r : Rw.Rule} (hv : Rw.valid t = true) (hv' : Rw.valid (moreT t r) = true) (a : Int) (x : List UInt8) (b : Int) (y : List UInt8) : openB (moreT t r) a x b y = openB t a x b y := by
  unfold openB
  rw [hv, hv']
  have h1 : (side (moreT t r).rules a x).isSome = (side t.rules a x).isSome := by
    rcases side_more t.rules r a x with ⟨e1, e2⟩ | ⟨S, S', e1, e2, _⟩
    · rw [e1]; show (side (t.rules ++ [r]) a x).isSome = _; rw [e2]
    · rw [e1]; show (side (t.rules ++ [r]) a x).isSome = _; rw [e2]; rfl
  have h2 : (side (moreT t r).rules b y).isSome = (side t.rules b y).isSome := by
    rcases side_more t.rules r b y with ⟨e1, e2⟩ | ⟨S, S', e1, e2, _⟩
    · rw [e1]; show (side (t.rules ++ [r]) b y).isSome = _; rw [e2]
    · rw [e1]; show (side (t.rules ++ [r]) b y).isSome = _; rw [e2]; rfl
  rw [h1, h2]

theorem best_err {w : Ws} : (best w).2 = 0 ∨ (best w).2 = 11 := by
  rcases best_two (w := w) with h | h
  · exact .inl h
  · exact .inr h.1

theorem law_more {t : Rw.Table} {r : Rw.Rule} (hv : Rw.valid t = true) (hv' : Rw.valid (moreT t r) = true) (a : Int) (x : List UInt8) (b : Int) (y : List UInt8) :
    ((bestOf t a x b y).2 = 1 → (bestOf (moreT t r) a x b y).2 = 1) ∧
    ((bestOf t a x b y).2 = 0 → (bestOf (moreT t r) a x b y).2 = 0 ∧ (bestOf (moreT t r) a x b y).1.cost ≤ (bestOf t a x b y).1.cost ∧ checkOf (moreT t r) a x b y (bestOf t a x b y).1 = true) := by
  have ho := open_more hv hv' a x b y
  cases h : openB t a x b y with
  | false =>
    rw [h] at ho
    rw [bestOf_no h, bestOf_no ho]
    exact ⟨fun _ => rfl, fun e => by cases e⟩
  | true =>
    rw [h] at ho
    obtain ⟨S1, S2, h1, h2, -, hf⟩ := open_some h
    obtain ⟨T1, T2, g1, g2, -, hg⟩ := open_some ho
    rw [bestOf_eq h h1 h2]
    refine ⟨fun e => ?_, fun e => ?_⟩
    · rcases best_err (w := ⟨S1, S2⟩) with e' | e' <;> rw [e'] at e <;> cases e
    · have hc := best_checks hf.good e
      have l1 : T1.letters = S1.letters ∧ S1.rules <+: T1.rules := by
        rcases side_more t.rules r a x with ⟨e1, _⟩ | ⟨S, S', e1, e2, e3, e4⟩
        · rw [h1] at e1; cases e1
        · rw [h1] at e1; cases e1
          have g1' : side (t.rules ++ [r]) a x = some T1 := g1
          rw [g1'] at e2; cases e2
          exact ⟨e3, e4⟩
      have l2 : T2.letters = S2.letters ∧ S2.rules <+: T2.rules := by
        rcases side_more t.rules r b y with ⟨e1, _⟩ | ⟨S, S', e1, e2, e3, e4⟩
        · rw [h2] at e1; cases e1
        · rw [h2] at e1; cases e1
          have g2' : side (t.rules ++ [r]) b y = some T2 := g2
          rw [g2'] at e2; cases e2
          exact ⟨e3, e4⟩
      have hm := more_check (w := ⟨S1, S2⟩) (w' := ⟨T1, T2⟩) l1.1 l2.1 l1.2 l2.2 hc
      have hch : checkOf (moreT t r) a x b y (best ⟨S1, S2⟩).1 = true := by rw [checkOf_eq ho g1 g2]; exact hm
      have := law_cheapest hch
      exact ⟨this.1, this.2, hch⟩

end Al
