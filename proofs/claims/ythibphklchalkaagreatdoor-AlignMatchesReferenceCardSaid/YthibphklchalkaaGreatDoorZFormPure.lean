/-
  The forms of a word, plainly: rewritings from a place on, beginnings, the least costs, what a list of forms has to be. NO PROGRAM IN THIS TEXT.
-/
import Derived.Test.YthibphklchalkaaGreatDoorZMPlain
namespace Fo
open Al (R fits)

section
variable {L : List (List UInt8)} {rs : List R}

/-- a rewriting from place i on: its form, its cost -/
inductive Re (L : List (List UInt8)) (rs : List R) : Nat → List UInt8 → Int → Prop
  | nil : Re L rs L.length [] 0
  | cons {i : Nat} {r : R} {f : List UInt8} {c : Int} : r ∈ rs → fits L r i = true → Re L rs (i + r.from_.length) f c → Re L rs i (r.to_ ++ f) (r.cost + c)
/-- a beginning up to place i -/
inductive Pre (L : List (List UInt8)) (rs : List R) : Nat → List UInt8 → Int → Prop
  | nil : Pre L rs 0 [] 0
  | snoc {i : Nat} {r : R} {f : List UInt8} {c : Int} : Pre L rs i f c → r ∈ rs → fits L r i = true → Pre L rs (i + r.from_.length) (f ++ r.to_) (c + r.cost)

theorem Pre.join {i : Nat} {f : List UInt8} {c : Int} (h : Pre L rs i f c) : ∀ {g : List UInt8} {d : Int}, Re L rs i g d → Re L rs 0 (f ++ g) (c + d) := by
  induction h with
  | nil => intro g d hg; simpa using hg
  | snoc hp hr hf ih =>
    intro g d hg
    have := ih (Re.cons hr hf hg)
    rw [List.append_assoc, Int.add_assoc]
    exact this

theorem fits_le {r : R} {i : Nat} (h : fits L r i = true) : i + r.from_.length ≤ L.length := Al.fits_le h
theorem Re.le {i : Nat} {f : List UInt8} {c : Int} (h : Re L rs i f c) : i ≤ L.length := by
  induction h with
  | nil => exact Nat.le_refl _
  | cons hr hf h ih => have := fits_le hf; omega
theorem Pre.le {i : Nat} {f : List UInt8} {c : Int} (h : Pre L rs i f c) : i ≤ L.length := by
  cases h with
  | nil => exact Nat.zero_le _
  | snoc hp hr hf => exact fits_le hf

/-- the rules rewrite letters, their costs lie within bounds -/
structure Good (rs : List R) : Prop where
  some_ : ∀ r ∈ rs, 0 < r.from_.length
  cost : ∀ r ∈ rs, 0 ≤ r.cost ∧ r.cost ≤ 1000
theorem Re.cost (hg : Good rs) {i : Nat} {f : List UInt8} {c : Int} (h : Re L rs i f c) : 0 ≤ c ∧ c ≤ 1000 * ((L.length : Int) - i) := by
  induction h with
  | nil => omega
  | cons hr hf h ih =>
    have h1 := hg.cost _ hr
    have h2 := hg.some_ _ hr
    have h3 := fits_le hf
    omega
theorem Pre.cost (hg : Good rs) {i : Nat} {f : List UInt8} {c : Int} (h : Pre L rs i f c) : 0 ≤ c ∧ c ≤ 1000 * (i : Int) := by
  induction h with
  | nil => omega
  | snoc hp hr hf ih =>
    have h1 := hg.cost _ hr
    have h2 := hg.some_ _ hr
    omega

/-- the least of what there is -/
def Least (P : Int → Prop) (c : Int) : Prop := P c ∧ ∀ d, P d → c ≤ d
theorem Least.uniq {P : Int → Prop} {c d : Int} (h : Least P c) (g : Least P d) : c = d := Int.le_antisymm (h.2 _ g.1) (g.2 _ h.1)
/-- where there is one at least 0, there is a least one -/
theorem least_of {P : Int → Prop} (h0 : ∀ c, P c → 0 ≤ c) : ∀ (n : Nat) (c : Int), c.toNat ≤ n → P c → ∃ d, Least P d ∧ d ≤ c
  | 0, c, hn, hc => ⟨c, ⟨hc, fun d hd => by have := h0 d hd; have := h0 c hc; omega⟩, Int.le_refl _⟩
  | n + 1, c, hn, hc => by
    by_cases h : ∃ d, P d ∧ d < c
    · obtain ⟨d, hd, hlt⟩ := h
      have h1 := h0 d hd
      obtain ⟨e, he, hle⟩ := least_of h0 n d (by omega) hd
      exact ⟨e, he, by omega⟩
    · exact ⟨c, ⟨hc, fun d hd => by
        apply Classical.byContradiction
        intro hno
        exact h ⟨d, hd, by omega⟩⟩, Int.le_refl _⟩

/-- the least cost of a form from place i on -/
def LeastAt (L : List (List UInt8)) (rs : List R) (i : Nat) (f : List UInt8) : Int → Prop := Least fun c => Re L rs i f c
/-- the least cost up to place i -/
def LeastTo (L : List (List UInt8)) (rs : List R) (i : Nat) : Int → Prop := Least fun c => ∃ f, Pre L rs i f c

theorem LeastAt.some_ (hg : Good rs) {i : Nat} {f : List UInt8} {c : Int} (h : Re L rs i f c) : ∃ d, LeastAt L rs i f d ∧ d ≤ c :=
  least_of (fun _d hd => (hd.cost hg).1) c.toNat c (Nat.le_refl _) h
theorem LeastTo.some_ (hg : Good rs) {i : Nat} {f : List UInt8} {c : Int} (h : Pre L rs i f c) : ∃ d, LeastTo L rs i d ∧ d ≤ c :=
  least_of (P := fun c => ∃ f, Pre L rs i f c) (fun _d ⟨_, hd⟩ => (hd.cost hg).1) c.toNat c (Nat.le_refl _) ⟨f, h⟩

/-- what stands among the ends at place i: B is the least cost up to there -/
def EndAt (L : List (List UInt8)) (rs : List R) (most : Int) (i : Nat) (B : Int) (f : List UInt8) (c : Int) : Prop := LeastAt L rs i f c ∧ B + c ≤ most

/-- an end is a step and an end behind it -/
theorem EndAt.step (_hg : Good rs) {most : Int} {i : Nat} {B : Int} {f : List UInt8} {c : Int} (hB : LeastTo L rs i B) (hi : i < L.length) (h : EndAt L rs most i B f c) :
    ∃ (r : R) (g : List UInt8) (d : Int), r ∈ rs ∧ fits L r i = true ∧ f = r.to_ ++ g ∧ c = r.cost + d ∧ LeastAt L rs (i + r.from_.length) g d ∧ ∀ B', LeastTo L rs (i + r.from_.length) B' → EndAt L rs most (i + r.from_.length) B' g d := by
  obtain ⟨⟨h1, h2⟩, h3⟩ := h
  generalize hi' : i = i' at h1 h2
  cases h1 with
  | nil => omega
  | @cons _ r g d hr hf h1 =>
    subst hi'
    have hl : LeastAt L rs (i + r.from_.length) g d := ⟨h1, fun e he => by have := h2 _ (Re.cons hr hf he); omega⟩
    refine ⟨r, g, d, hr, hf, rfl, rfl, hl, fun B' hB' => ⟨hl, ?_⟩⟩
    obtain ⟨⟨p, hp⟩, -⟩ := hB
    have := hB'.2 _ ⟨_, Pre.snoc hp hr hf⟩
    omega

/-! ### lists of forms -/

/-- more forms than may be -/
def Many (L : List (List UInt8)) (rs : List R) (most : Int) : Prop := ∃ fs : List (List UInt8), fs.Nodup ∧ 1000 < fs.length ∧ ∀ f ∈ fs, ∃ c, Re L rs 0 f c ∧ c ≤ most
theorem nodup_map_append (p : List UInt8) : ∀ {fs : List (List UInt8)}, fs.Nodup → (fs.map fun f => p ++ f).Nodup
  | [], _ => List.nodup_nil
  | f :: fs, h => by
    rw [List.nodup_cons] at h
    rw [List.map_cons, List.nodup_cons]
    refine ⟨fun hm => ?_, nodup_map_append p h.2⟩
    obtain ⟨g, hg, e⟩ := List.mem_map.1 hm
    rw [List.append_cancel_left e] at hg
    exact h.1 hg
theorem many_of_ends {most : Int} {i : Nat} {B : Int} (hB : LeastTo L rs i B) {fs : List (List UInt8)} (hn : fs.Nodup) (hl : 1000 < fs.length) (h : ∀ f ∈ fs, ∃ c, EndAt L rs most i B f c) : Many L rs most := by
  obtain ⟨⟨p, hp⟩, -⟩ := hB
  refine ⟨fs.map fun f => p ++ f, nodup_map_append p hn, by simpa using hl, fun f hf => ?_⟩
  obtain ⟨g, hg, rfl⟩ := List.mem_map.1 hf
  obtain ⟨c, hc, hm⟩ := h g hg
  exact ⟨B + c, hp.join hc.1, hm⟩

/-- the forms up to a cost, in order, with their least costs -/
structure Forms (lt : List UInt8 → List UInt8 → Prop) (L : List (List UInt8)) (rs : List R) (most : Int) (out : List (List UInt8)) (costs : List Int) : Prop where
  order : out.Pairwise lt
  len : costs.length = out.length
  few : out.length ≤ 1000
  cost : ∀ (k : Nat) (f : List UInt8) (c : Int), out[k]? = some f → costs[k]? = some c → LeastAt L rs 0 f c ∧ c ≤ most
  all : ∀ (f : List UInt8) (c : Int), Re L rs 0 f c → c ≤ most → f ∈ out

theorem ordered_nodup {lt : List UInt8 → List UInt8 → Prop} (hi : ∀ a, ¬ lt a a) {l : List (List UInt8)} (h : l.Pairwise lt) : l.Nodup :=
  List.Pairwise.imp (S := fun a b => a ≠ b) (fun {a b} hab e => by subst e; exact hi a hab) h
theorem ordered_same {lt : List UInt8 → List UInt8 → Prop} (hi : ∀ a, ¬ lt a a) (ha : ∀ a b, lt a b → ¬ lt b a) : ∀ {l m : List (List UInt8)}, l.Pairwise lt → m.Pairwise lt → (∀ x, x ∈ l ↔ x ∈ m) → l = m
  | [], [], _, _, _ => rfl
  | [], y :: m, _, _, h => by have := (h y).2 List.mem_cons_self; cases this
  | x :: l, [], _, _, h => by have := (h x).1 List.mem_cons_self; cases this
  | x :: l, y :: m, h1, h2, h => by
    rw [List.pairwise_cons] at h1 h2
    have exy : x = y := by
      rcases List.mem_cons.1 ((h x).1 List.mem_cons_self) with e | hx
      · exact e
      · rcases List.mem_cons.1 ((h y).2 List.mem_cons_self) with e | hy
        · exact e.symm
        · exact absurd (h2.1 x hx) (ha _ _ (h1.1 y hy))
    subst exy
    rw [ordered_same hi ha h1.2 h2.2 fun z => ?_]
    constructor
    · intro hz
      rcases List.mem_cons.1 ((h z).1 (List.mem_cons_of_mem _ hz)) with e | hz'
      · subst e; exact absurd (h1.1 z hz) (hi z)
      · exact hz'
    · intro hz
      rcases List.mem_cons.1 ((h z).2 (List.mem_cons_of_mem _ hz)) with e | hz'
      · subst e; exact absurd (h2.1 z hz) (hi z)
      · exact hz'
variable {lt : List UInt8 → List UInt8 → Prop} {most : Int} {out out' : List (List UInt8)} {costs costs' : List Int}
theorem Forms.mem_iff (h : Forms lt L rs most out costs) (_hg : Good rs) (f : List UInt8) : f ∈ out ↔ ∃ c, LeastAt L rs 0 f c ∧ c ≤ most := by
  constructor
  · intro hf
    obtain ⟨k, hk⟩ := List.mem_iff_getElem?.1 hf
    obtain ⟨c, hc⟩ : ∃ c, costs[k]? = some c := ⟨_, List.getElem?_eq_getElem (by rw [h.len]; exact (List.getElem?_eq_some_iff.1 hk).1)⟩
    exact ⟨c, h.cost k f c hk hc⟩
  · rintro ⟨c, hc, hm⟩
    exact h.all f c hc.1 hm
theorem Forms.uniq (hi : ∀ a, ¬ lt a a) (ha : ∀ a b, lt a b → ¬ lt b a) (hg : Good rs) (h : Forms lt L rs most out costs) (h' : Forms lt L rs most out' costs') : out = out' ∧ costs = costs' := by
  have e : out = out' := ordered_same hi ha h.order h'.order fun f => (h.mem_iff hg f).trans (h'.mem_iff hg f).symm
  subst e
  refine ⟨rfl, ?_⟩
  apply List.ext_getElem?
  intro k
  by_cases hk : k < out.length
  · obtain ⟨f, hf⟩ : ∃ f, out[k]? = some f := ⟨_, List.getElem?_eq_getElem hk⟩
    obtain ⟨c, hc⟩ : ∃ c, costs[k]? = some c := ⟨_, List.getElem?_eq_getElem (by rw [h.len]; exact hk)⟩
    obtain ⟨c', hc'⟩ : ∃ c, costs'[k]? = some c := ⟨_, List.getElem?_eq_getElem (by rw [h'.len]; exact hk)⟩
    rw [hc, hc', (h.cost k f c hf hc).1.uniq (h'.cost k f c' hf hc').1]
  · rw [List.getElem?_eq_none (by rw [h.len]; omega), List.getElem?_eq_none (by rw [h'.len]; omega)]
theorem len_le_of_sub {α : Type} [DecidableEq α] : ∀ (g l : List α), g.Nodup → (∀ a ∈ g, a ∈ l) → g.length ≤ l.length
  | [], _, _, _ => Nat.zero_le _
  | x :: g, l, hn, hs => by
    rw [List.nodup_cons] at hn
    have hx := hs x List.mem_cons_self
    have := len_le_of_sub g (l.erase x) hn.2 fun a ha => (List.mem_erase_of_ne (fun e => hn.1 (by rw [← e]; exact ha))).2 (hs a (List.mem_cons_of_mem _ ha))
    have hl := List.length_erase_of_mem hx
    have hpos := List.length_pos_of_mem hx
    rw [List.length_cons]
    omega
theorem Forms.not_many (h : Forms lt L rs most out costs) : ¬ Many L rs most := by
  rintro ⟨fs, hn, hl, hf⟩
  have h1 := len_le_of_sub fs out hn fun f hm => by
    obtain ⟨c, h1, h2⟩ := hf f hm
    exact h.all f c h1 h2
  have := h.few
  omega
/-- for a lesser bound -/
theorem Many.mono {m' : Int} (h : Many L rs most) (hm : most ≤ m') : Many L rs m' := by
  obtain ⟨fs, hn, hl, hf⟩ := h
  refine ⟨fs, hn, hl, fun f h1 => ?_⟩
  obtain ⟨c, h2, h3⟩ := hf f h1
  exact ⟨c, h2, by omega⟩
/-- with further rules, or the same in another order -/
theorem Re.more {rs' : List R} (hs : ∀ r ∈ rs, ∃ r' ∈ rs', r'.cost = r.cost ∧ r'.from_ = r.from_ ∧ r'.to_ = r.to_) {i : Nat} {f : List UInt8} {c : Int} (h : Re L rs i f c) : Re L rs' i f c := by
  induction h with
  | nil => exact Re.nil
  | cons hr hf h ih =>
    obtain ⟨r', h1, h2, h3, h4⟩ := hs _ hr
    rw [← h2, ← h4]
    refine Re.cons h1 ?_ (by rw [h3]; exact ih)
    unfold fits at hf ⊢
    rw [h3]
    exact hf
end

end Fo
