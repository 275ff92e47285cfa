/-
  The least cost of a rewriting with a form, reckoned over a grid of places. NO PROGRAM IN THIS TEXT.
-/
import Derived.Test.YtdchjacccmajcaaGreatDoorZRnLaws
namespace Fo
open Al (R fits)
section
variable {L : List (List UInt8)} {rs : List R} {form : List UInt8} {D D' : Nat → R → Nat → Prop} {B : Nat → Nat → Int}

/-- a step of the grid: from place (i, k) by a rule to (j, m) -/
structure Stp1 (L : List (List UInt8)) (rs : List R) (form : List UInt8) (i : Nat) (r : R) (k : Nat) (c' : Int) (j m : Nat) (c : Int) : Prop where
  fit : fits L r i = true
  pre : Pre L rs i (form.take k) c'
  le : k + r.to_.length ≤ form.length
  to_ : (form.drop k).take r.to_.length = r.to_
  j : j = i + r.from_.length
  m : m = k + r.to_.length
  c : c = c' + r.cost
def Got (L : List (List UInt8)) (rs : List R) (form : List UInt8) (D : Nat → R → Nat → Prop) (j m : Nat) (c : Int) : Prop :=
  (j = 0 ∧ m = 0 ∧ c = 0) ∨ ∃ i r k c', D i r k ∧ Stp1 L rs form i r k c' j m c
/-- the grid holds the least of what is done -/
def Grd (L : List (List UInt8)) (rs : List R) (form : List UInt8) (D : Nat → R → Nat → Prop) (B : Nat → Nat → Int) : Prop :=
  ∀ j m, j ≤ L.length → m ≤ form.length → (B j m = -1 ∧ ∀ c, ¬ Got L rs form D j m c) ∨ (0 ≤ B j m ∧ Least (Got L rs form D j m) (B j m))
/-- all that is done is of the rules; all before a place is done -/
def Upto (rs : List R) (D : Nat → R → Nat → Prop) (i : Nat) : Prop := (∀ i' r k, D i' r k → r ∈ rs) ∧ ∀ i' r k, i' < i → r ∈ rs → D i' r k

theorem Got.congr (h : ∀ i r k, (∃ c' j m c, Stp1 L rs form i r k c' j m c) → (D i r k ↔ D' i r k)) (j m : Nat) (c : Int) : Got L rs form D j m c ↔ Got L rs form D' j m c := by
  unfold Got
  constructor
  · rintro (h1 | ⟨i, r, k, c', h1, h2⟩)
    · exact .inl h1
    · exact .inr ⟨i, r, k, c', (h i r k ⟨_, _, _, _, h2⟩).1 h1, h2⟩
  · rintro (h1 | ⟨i, r, k, c', h1, h2⟩)
    · exact .inl h1
    · exact .inr ⟨i, r, k, c', (h i r k ⟨_, _, _, _, h2⟩).2 h1, h2⟩
theorem Grd.same (g : Grd L rs form D B) (h : ∀ j m c, Got L rs form D j m c ↔ Got L rs form D' j m c) : Grd L rs form D' B := by
  intro j m hj hm
  rcases g j m hj hm with ⟨h1, h2⟩ | ⟨h1, h2, h3⟩
  · exact .inl ⟨h1, fun c hc => h2 c ((h j m c).2 hc)⟩
  · exact .inr ⟨h1, (h j m _).1 h2, fun d hd => h3 d ((h j m d).2 hd)⟩
theorem Grd.congr (g : Grd L rs form D B) (h : ∀ i r k, (∃ c' j m c, Stp1 L rs form i r k c' j m c) → (D i r k ↔ D' i r k)) : Grd L rs form D' B := g.same (Got.congr h)
theorem Grd.start : Grd L rs form (fun _ _ _ => False) (fun j m => if j = 0 ∧ m = 0 then 0 else -1) := by
  intro j m _ _
  by_cases h : j = 0 ∧ m = 0
  · refine .inr ⟨by simp only [if_pos h]; omega, by simp only [if_pos h]; exact .inl ⟨h.1, h.2, rfl⟩, fun d hd => ?_⟩
    simp only [if_pos h]
    rcases hd with ⟨_, _, h3⟩ | ⟨_, _, _, _, h3, _⟩
    · omega
    · exact h3.elim
  · refine .inl ⟨by simp only [if_neg h], fun c hc => ?_⟩
    rcases hc with ⟨h1, h2, _⟩ | ⟨_, _, _, _, h3, _⟩
    · exact h ⟨h1, h2⟩
    · exact h3.elim
theorem take_more {k n : Nat} {x : List UInt8} (h : (form.drop k).take n = x) : form.take k ++ x = form.take (k + n) := by
  rw [List.take_add, h]
theorem pre_take (hg : Good rs) {i : Nat} {k : Nat} {c : Int} (hk : k ≤ form.length) (h : Pre L rs i (form.take k) c) : (i = 0 ∧ k = 0 ∧ c = 0) ∨ ∃ i' r k' c', i' < i ∧ r ∈ rs ∧ Stp1 L rs form i' r k' c' i k c := by
  generalize hf : form.take k = f at h
  cases h with
  | nil =>
    have := congrArg List.length hf
    rw [List.length_take, List.length_nil] at this
    exact .inl ⟨rfl, by omega, rfl⟩
  | @snoc i' r f' c' hp hr hft =>
    have hl := congrArg List.length hf
    rw [List.length_take, List.length_append, Nat.min_eq_left hk] at hl
    have h1 : form.take f'.length = f' := by
      have := congrArg (List.take f'.length) hf
      rw [List.take_take, Nat.min_eq_left (by omega), List.take_left] at this
      exact this
    have h2 : (form.drop f'.length).take r.to_.length = r.to_ := by
      have := congrArg (List.drop f'.length) hf
      rw [List.drop_take, List.drop_left] at this
      rw [show r.to_.length = k - f'.length by omega]
      exact this
    refine .inr ⟨i', r, f'.length, c', by have := hg.some_ r hr; omega, hr, hft, by rw [h1]; exact hp, by omega, h2, rfl, hl, rfl⟩
theorem got_pre (hg : Good rs) {i k : Nat} (hu : Upto rs D i) (hk : k ≤ form.length) (c : Int) : Got L rs form D i k c ↔ Pre L rs i (form.take k) c := by
  constructor
  · rintro (⟨rfl, rfl, rfl⟩ | ⟨i', r, k', c', h1, h2⟩)
    · rw [List.take_zero]; exact Pre.nil
    · rw [h2.j, h2.m, h2.c, ← take_more h2.to_]
      exact Pre.snoc h2.pre (hu.1 _ _ _ h1) h2.fit
  · intro h
    rcases pre_take hg hk h with h1 | ⟨i', r, k', c', h1, h2, h3⟩
    · exact .inl h1
    · exact .inr ⟨i', r, k', c', hu.2 _ _ _ h1 h2, h3⟩
/-- one thing more done -/
def And1 (D : Nat → R → Nat → Prop) (i : Nat) (r : R) (k : Nat) : Nat → R → Nat → Prop := fun i' r' k' => D i' r' k' ∨ (i' = i ∧ r' = r ∧ k' = k)
theorem Grd.pass (hg : Good rs) (g : Grd L rs form D B) {i : Nat} {r : R} {k : Nat} (hi : i ≤ L.length) (hu : Upto rs D i) (h : B i k < 0 ∨ ¬ (form.drop k).take r.to_.length = r.to_) : Grd L rs form (And1 D i r k) B := by
  refine g.congr fun i' r' k' ⟨c', j, m, c, hs⟩ => ⟨fun h => .inl h, fun h' => ?_⟩
  rcases h' with h' | ⟨rfl, rfl, rfl⟩
  · exact h'
  · rcases h with h | h
    · have hk : k' ≤ form.length := by have := hs.le; omega
      rcases g i' k' hi hk with ⟨_, h2⟩ | ⟨h1, _⟩
      · exact absurd ((got_pre hg hu hk _).2 hs.pre) (h2 _)
      · omega
    · exact absurd hs.to_ h
/-- the grid after a step -/
def put2 (B : Nat → Nat → Int) (j m : Nat) (c : Int) : Nat → Nat → Int := fun j' m' => if j' = j ∧ m' = m then c else B j' m'
theorem Grd.step (hg : Good rs) (g : Grd L rs form D B) {i : Nat} {r : R} {k : Nat} (hu : Upto rs D i) (hr : r ∈ rs) (hf : fits L r i = true) (hb : ¬ B i k < 0) (hle : k + r.to_.length ≤ form.length) (hto : (form.drop k).take r.to_.length = r.to_) :
    Grd L rs form (And1 D i r k) (if B (i + r.from_.length) (k + r.to_.length) < 0 ∨ B i k + r.cost < B (i + r.from_.length) (k + r.to_.length) then put2 B (i + r.from_.length) (k + r.to_.length) (B i k + r.cost) else B) := by
  have hfl := fits_le hf
  have hk : k ≤ form.length := by omega
  have hL : Least (fun c => Pre L rs i (form.take k) c) (B i k) := by
    rcases g i k (by omega) hk with ⟨h1, _⟩ | ⟨_, h2, h3⟩
    · omega
    · exact ⟨(got_pre hg hu hk _).1 h2, fun d hd => h3 d ((got_pre hg hu hk _).2 hd)⟩
  have hc := (hg.cost r hr).1
  have split1 : ∀ j m c, Got L rs form (And1 D i r k) j m c ↔ Got L rs form D j m c ∨ ∃ c', Stp1 L rs form i r k c' j m c := by
    intro j m c
    constructor
    · rintro (h | ⟨i', r', k', c', h1 | ⟨rfl, rfl, rfl⟩, h2⟩)
      · exact .inl (.inl h)
      · exact .inl (.inr ⟨_, _, _, _, h1, h2⟩)
      · exact .inr ⟨c', h2⟩
    · rintro ((h | ⟨i', r', k', c', h1, h2⟩) | ⟨c', h⟩)
      · exact .inl h
      · exact .inr ⟨_, _, _, _, .inl h1, h2⟩
      · exact .inr ⟨_, _, _, _, .inr ⟨rfl, rfl, rfl⟩, h⟩
  have hnew : Stp1 L rs form i r k (B i k) (i + r.from_.length) (k + r.to_.length) (B i k + r.cost) := ⟨hf, hL.1, hle, hto, rfl, rfl, rfl⟩
  intro j m hj hm
  by_cases hjm : j = i + r.from_.length ∧ m = k + r.to_.length
  · obtain ⟨rfl, rfl⟩ := hjm
    refine .inr ?_
    have low : ∀ c', Stp1 L rs form i r k c' (i + r.from_.length) (k + r.to_.length) (c' + r.cost) → B i k + r.cost ≤ c' + r.cost := fun c' h => by have := hL.2 c' h.pre; omega
    rcases g _ _ hj hm with ⟨h1, h2⟩ | ⟨h1, h2, h3⟩
    · rw [if_pos (.inl (by omega))]
      unfold put2
      rw [if_pos ⟨rfl, rfl⟩]
      refine ⟨by omega, (split1 _ _ _).2 (.inr ⟨_, hnew⟩), fun d hd => ?_⟩
      rcases (split1 _ _ _).1 hd with h4 | ⟨c', h4⟩
      · exact absurd h4 (h2 d)
      · have := h4.c; subst this; exact low c' h4
    · by_cases hlt : B i k + r.cost < B (i + r.from_.length) (k + r.to_.length)
      · rw [if_pos (.inr hlt)]
        unfold put2
        rw [if_pos ⟨rfl, rfl⟩]
        refine ⟨by omega, (split1 _ _ _).2 (.inr ⟨_, hnew⟩), fun d hd => ?_⟩
        rcases (split1 _ _ _).1 hd with h4 | ⟨c', h4⟩
        · have := h3 d h4; omega
        · have := h4.c; subst this; exact low c' h4
      · rw [if_neg (by omega)]
        refine ⟨h1, (split1 _ _ _).2 (.inl h2), fun d hd => ?_⟩
        rcases (split1 _ _ _).1 hd with h4 | ⟨c', h4⟩
        · exact h3 d h4
        · have := h4.c; subst this; have := low c' h4; omega
  · have e : (if B (i + r.from_.length) (k + r.to_.length) < 0 ∨ B i k + r.cost < B (i + r.from_.length) (k + r.to_.length) then put2 B (i + r.from_.length) (k + r.to_.length) (B i k + r.cost) else B) j m = B j m := by
      split
      · unfold put2; rw [if_neg hjm]
      · rfl
    have e2 : ∀ c, Got L rs form (And1 D i r k) j m c ↔ Got L rs form D j m c := fun c => by
      rw [split1]
      constructor
      · rintro (h | ⟨c', h⟩)
        · exact h
        · exact absurd ⟨h.j, h.m⟩ hjm
      · exact .inl
    rw [e]
    rcases g j m hj hm with ⟨h1, h2⟩ | ⟨h1, h2, h3⟩
    · exact .inl ⟨h1, fun c hc => h2 c ((e2 c).1 hc)⟩
    · exact .inr ⟨h1, (e2 _).2 h2, fun d hd => h3 d ((e2 d).1 hd)⟩
/-- at the end the grid holds the least cost of the form -/
theorem Grd.done (hg : Good rs) (g : Grd L rs form D B) (hu : Upto rs D L.length) {c : Int} (h : LeastAt L rs 0 form c) : B L.length form.length = c := by
  have key : ∀ d, Got L rs form D L.length form.length d ↔ Re L rs 0 form d := fun d => by
    rw [got_pre hg hu (Nat.le_refl _), List.take_length, re_iff_pre]
  rcases g L.length form.length (Nat.le_refl _) (Nat.le_refl _) with ⟨_, h2⟩ | ⟨_, h2, h3⟩
  · exact absurd ((key c).2 h.1) (h2 c)
  · exact Least.uniq (P := fun d => Re L rs 0 form d) ⟨(key _).1 h2, fun d hd => h3 d ((key d).2 hd)⟩ h
/-- costs on the grid are few -/
theorem Grd.bound (hg : Good rs) (g : Grd L rs form D B) (h12 : L.length ≤ 12) (hD : ∀ i r k, D i r k → r ∈ rs) {j m : Nat} (hj : j ≤ L.length) (hm : m ≤ form.length) : -1 ≤ B j m ∧ B j m ≤ 12000 := by
  rcases g j m hj hm with ⟨h1, _⟩ | ⟨h1, h2, _⟩
  · omega
  · refine ⟨by omega, ?_⟩
    rcases h2 with ⟨_, _, h3⟩ | ⟨i, r, k, c', h4, h5⟩
    · omega
    · have hp := Pre.snoc h5.pre (hD _ _ _ h4) h5.fit
      rw [← h5.j, ← h5.c] at hp
      have := hp.cost hg
      omega
end
end Fo
