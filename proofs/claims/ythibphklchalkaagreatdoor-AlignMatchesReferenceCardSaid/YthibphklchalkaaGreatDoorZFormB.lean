/-
  The forms of a word, as the program reckons them: the least costs up to each place, the ends behind each place. NO PROGRAM IN THIS TEXT.
-/
import Derived.Test.YthibphklchalkaaGreatDoorZFormPure
namespace Fo
open Al (R fits)

/-- more than any cost -/
def inf : Int := 2147483647
structure Stp where
  to_ : List UInt8
  cost : Int
  next : Nat
def stp (i : Nat) (r : R) : Stp := ⟨r.to_, r.cost, i + r.from_.length⟩
/-- the steps at place i -/
def steps (L : List (List UInt8)) (rs : List R) (i : Nat) : List Stp := (rs.filter fun r => fits L r i).map (stp i)

section
variable {L : List (List UInt8)} {rs : List R}

theorem steps_mem {i : Nat} {s : Stp} (h : s ∈ steps L rs i) : ∃ r ∈ rs, fits L r i = true ∧ s = stp i r := by
  obtain ⟨r, hr, e⟩ := List.mem_map.1 h
  obtain ⟨h1, h2⟩ := List.mem_filter.1 hr
  exact ⟨r, h1, h2, e.symm⟩
theorem mem_steps {i : Nat} {r : R} (h : r ∈ rs) (hf : fits L r i = true) : stp i r ∈ steps L rs i := List.mem_map_of_mem (List.mem_filter.2 ⟨h, hf⟩)
theorem steps_snoc {i : Nat} {r : R} (qs : List R) (hf : fits L r i = true) : steps L (qs ++ [r]) i = steps L qs i ++ [stp i r] := by
  unfold steps
  rw [List.filter_append, List.map_append]
  simp [hf]
theorem steps_skip {i : Nat} {r : R} (qs : List R) (hf : fits L r i = false) : steps L (qs ++ [r]) i = steps L qs i := by
  unfold steps
  rw [List.filter_append, List.map_append]
  simp [hf]
theorem steps_fits {i : Nat} {s : Stp} (hg : Good rs) (h : s ∈ steps L rs i) : i < s.next ∧ s.next ≤ L.length ∧ 0 ≤ s.cost ∧ s.cost ≤ 1000 := by
  obtain ⟨r, h1, h2, rfl⟩ := steps_mem h
  have := hg.some_ r h1
  have := hg.cost r h1
  have := fits_le h2
  unfold stp
  simp only
  omega

/-! ### the least costs up to each place -/

/-- a beginning that ends at j, its last step at a place before i, or at i by a rule of qs -/
def Last (L : List (List UInt8)) (rs : List R) (i : Nat) (qs : List R) (j : Nat) (c : Int) : Prop :=
  (j = 0 ∧ c = 0) ∨ ∃ i' r f d, ((i' < i ∧ r ∈ rs) ∨ (i' = i ∧ r ∈ qs)) ∧ Pre L rs i' f d ∧ fits L r i' = true ∧ j = i' + r.from_.length ∧ c = d + r.cost
theorem Last.pre {i : Nat} {qs : List R} (hq : ∀ r ∈ qs, r ∈ rs) {j : Nat} {c : Int} (h : Last L rs i qs j c) : ∃ f, Pre L rs j f c := by
  rcases h with ⟨rfl, rfl⟩ | ⟨i', r, f, d, h1, h2, h3, rfl, rfl⟩
  · exact ⟨_, Pre.nil⟩
  · exact ⟨_, Pre.snoc h2 (by rcases h1 with ⟨_, h⟩ | ⟨_, h⟩; exact h; exact hq r h) h3⟩
theorem Pre.last (hg : Good rs) {i : Nat} {qs : List R} {j : Nat} {f : List UInt8} {c : Int} (h : Pre L rs j f c) (hj : j ≤ i) : Last L rs i qs j c := by
  cases h with
  | nil => exact .inl ⟨rfl, rfl⟩
  | snoc hp hr hf =>
    have := hg.some_ _ hr
    exact .inr ⟨_, _, _, _, .inl ⟨by omega, hr⟩, hp, hf, rfl, rfl⟩
/-- B holds at each place the least cost of those -/
structure Bef (L : List (List UInt8)) (rs : List R) (i : Nat) (qs : List R) (B : List Int) : Prop where
  len : B.length = L.length + 1
  sub : ∀ r ∈ qs, r ∈ rs
  at_ : ∀ j b, B[j]? = some b → (b = inf ∧ ∀ c, ¬ Last L rs i qs j c) ∨ Least (Last L rs i qs j) b
theorem Bef.bound (hg : Good rs) (hL : L.length ≤ 1000) {i : Nat} {qs : List R} {B : List Int} (h : Bef L rs i qs B) {j : Nat} {b : Int} (hb : B[j]? = some b) : 0 ≤ b ∧ b ≤ inf := by
  rcases h.at_ j b hb with ⟨rfl, -⟩ | ⟨h1, -⟩
  · unfold inf; omega
  · obtain ⟨f, hf⟩ := h1.pre h.sub
    have h2 := hf.cost hg
    have h3 := hf.le
    unfold inf
    omega
theorem Bef.start : Bef L rs 0 [] (0 :: List.replicate L.length inf) := by
  refine ⟨by simp, fun r hr => by (cases hr), fun j b hb => ?_⟩
  have hl : ∀ j c, Last L rs 0 [] j c ↔ j = 0 ∧ c = 0 := by
    intro j c
    constructor
    · rintro (h | ⟨i', r, f, d, h1, -⟩)
      · exact h
      · rcases h1 with ⟨h, _⟩ | ⟨_, h⟩
        · omega
        · cases h
    · exact fun h => .inl h
  cases j with
  | zero =>
    simp at hb
    subst hb
    exact .inr ⟨(hl 0 0).2 ⟨rfl, rfl⟩, fun d hd => by have := (hl 0 d).1 hd; omega⟩
  | succ j =>
    have hb' : b = inf := by
      rw [List.getElem?_cons_succ, List.getElem?_replicate] at hb
      split at hb
      · cases hb; rfl
      · cases hb
    exact .inl ⟨hb', fun c hc => by have := (hl _ _).1 hc; omega⟩
theorem Bef.next {i : Nat} {B : List Int} (h : Bef L rs i rs B) : Bef L rs (i + 1) [] B := by
  have hl : ∀ j c, Last L rs (i + 1) [] j c ↔ Last L rs i rs j c := by
    intro j c
    constructor
    · rintro (h | ⟨i', r, f, d, h1, h2⟩)
      · exact .inl h
      · refine .inr ⟨i', r, f, d, ?_, h2⟩
        rcases h1 with ⟨h3, h4⟩ | ⟨_, h⟩
        · by_cases e : i' = i
          · exact .inr ⟨e, h4⟩
          · exact .inl ⟨by omega, h4⟩
        · cases h
    · rintro (h | ⟨i', r, f, d, h1, h2⟩)
      · exact .inl h
      · refine .inr ⟨i', r, f, d, .inl ?_, h2⟩
        rcases h1 with ⟨h3, h4⟩ | ⟨h3, h4⟩
        · exact ⟨by omega, h4⟩
        · exact ⟨by omega, h4⟩
  refine ⟨h.len, fun r hr => by (cases hr), fun j b hb => ?_⟩
  have e : Last L rs (i + 1) [] j = Last L rs i rs j := funext fun c => propext (hl j c)
  rw [e]
  exact h.at_ j b hb
theorem Bef.skip {i : Nat} {qs : List R} {B : List Int} {r : R} (h : Bef L rs i qs B) (hr : r ∈ rs) (hf : fits L r i = false) : Bef L rs i (qs ++ [r]) B := by
  have hl : ∀ j c, Last L rs i (qs ++ [r]) j c ↔ Last L rs i qs j c := by
    intro j c
    constructor
    · rintro (h | ⟨i', q, f, d, h1, h2, h3, h4⟩)
      · exact .inl h
      · refine .inr ⟨i', q, f, d, ?_, h2, h3, h4⟩
        rcases h1 with hm | ⟨rfl, hm⟩
        · exact .inl hm
        · rcases List.mem_append.1 hm with hm | hm
          · exact .inr ⟨rfl, hm⟩
          · rw [List.mem_singleton.1 hm, hf] at h3; cases h3
    · rintro (h | ⟨i', q, f, d, h1, h2⟩)
      · exact .inl h
      · refine .inr ⟨i', q, f, d, ?_, h2⟩
        rcases h1 with h | ⟨e, h⟩
        · exact .inl h
        · exact .inr ⟨e, List.mem_append_left _ h⟩
  refine ⟨h.len, fun q hq => ?_, fun j b hb => ?_⟩
  · rcases List.mem_append.1 hq with hq | hq
    · exact h.sub q hq
    · rw [List.mem_singleton.1 hq]; exact hr
  · have e : Last L rs i (qs ++ [r]) j = Last L rs i qs j := funext fun c => propext (hl j c)
    rw [e]
    exact h.at_ j b hb
/-- what stands at the place itself -/
theorem Bef.here (hg : Good rs) {i : Nat} {qs : List R} {B : List Int} (h : Bef L rs i qs B) {b : Int} (hb : B[i]? = some b) : (b = inf ∧ ∀ f c, ¬ Pre L rs i f c) ∨ LeastTo L rs i b := by
  rcases h.at_ i b hb with ⟨e, h1⟩ | ⟨h1, h2⟩
  · exact .inl ⟨e, fun f c hp => h1 c (hp.last hg (Nat.le_refl _))⟩
  · exact .inr ⟨h1.pre h.sub, fun d ⟨f, hd⟩ => h2 d (hd.last hg (Nat.le_refl _))⟩
theorem Bef.step (hg : Good rs) (hL : L.length ≤ 1000) {i : Nat} {qs : List R} {B : List Int} {r : R} (h : Bef L rs i qs B) (hr : r ∈ rs) (hf : fits L r i = true) {b b2 : Int} (hb : B[i]? = some b) (hb2 : B[i + r.from_.length]? = some b2) :
    Bef L rs i (qs ++ [r]) (B.set (i + r.from_.length) (min b2 (b + r.cost))) := by
  have hs : ∀ q ∈ qs ++ [r], q ∈ rs := fun q hq => by
    rcases List.mem_append.1 hq with hq | hq
    · exact h.sub q hq
    · rw [List.mem_singleton.1 hq]; exact hr
  have hc := hg.cost r hr
  have hl : ∀ j c, Last L rs i (qs ++ [r]) j c ↔ Last L rs i qs j c ∨ (j = i + r.from_.length ∧ ∃ f d, Pre L rs i f d ∧ c = d + r.cost) := by
    intro j c
    constructor
    · rintro (h | ⟨i', q, f, d, h1, h2, h3, h4, h5⟩)
      · exact .inl (.inl h)
      · rcases h1 with hm | ⟨rfl, hm⟩
        · exact .inl (.inr ⟨i', q, f, d, .inl hm, h2, h3, h4, h5⟩)
        · rcases List.mem_append.1 hm with hm | hm
          · exact .inl (.inr ⟨i', q, f, d, .inr ⟨rfl, hm⟩, h2, h3, h4, h5⟩)
          · rw [List.mem_singleton.1 hm] at h4 h5
            exact .inr ⟨h4, f, d, h2, h5⟩
    · rintro ((h | ⟨i', q, f, d, h1, h2⟩) | ⟨h1, f, d, h2, h3⟩)
      · exact .inl h
      · refine .inr ⟨i', q, f, d, ?_, h2⟩
        rcases h1 with h | ⟨e, h⟩
        · exact .inl h
        · exact .inr ⟨e, List.mem_append_left _ h⟩
      · exact .inr ⟨i, r, f, d, .inr ⟨rfl, List.mem_append_right _ List.mem_cons_self⟩, h2, hf, h1, h3⟩
  refine ⟨by rw [List.length_set]; exact h.len, hs, fun j x hx => ?_⟩
  by_cases hj : i + r.from_.length = j
  · subst hj
    have hlt := (List.getElem?_eq_some_iff.1 hb2).1
    rw [List.getElem?_set_self hlt] at hx
    cases hx
    have hbnd := h.bound hg hL hb2
    rcases h.here hg hb with ⟨rfl, hno⟩ | ⟨⟨f, hp⟩, hle⟩
    · have e : min b2 (inf + r.cost) = b2 := by omega
      have e2 : Last L rs i (qs ++ [r]) (i + r.from_.length) = Last L rs i qs (i + r.from_.length) := funext fun c => propext ((hl _ c).trans ⟨fun h => by
        rcases h with h | ⟨_, f, d, h, _⟩
        · exact h
        · exact absurd h (hno f d), .inl⟩)
      rw [e, e2]
      exact h.at_ _ _ hb2
    · right
      rcases h.at_ _ _ hb2 with ⟨rfl, hno⟩ | ⟨h1, h2⟩
      · have h3 := hp.cost hg
        have h4 := hp.le
        have e : min inf (b + r.cost) = b + r.cost := by unfold inf; omega
        rw [e]
        refine ⟨(hl _ _).2 (.inr ⟨rfl, f, b, hp, rfl⟩), fun d hd => ?_⟩
        rcases (hl _ _).1 hd with hd | ⟨_, f', d', hd', rfl⟩
        · exact absurd hd (hno d)
        · have := hle d' ⟨f', hd'⟩; omega
      · refine ⟨?_, fun d hd => ?_⟩
        · by_cases hm : b2 ≤ b + r.cost
          · rw [Int.min_eq_left hm]; exact (hl _ _).2 (.inl h1)
          · rw [Int.min_eq_right (by omega)]; exact (hl _ _).2 (.inr ⟨rfl, f, b, hp, rfl⟩)
        · rcases (hl _ _).1 hd with hd | ⟨_, f', d', hd', rfl⟩
          · have := h2 d hd; omega
          · have := hle d' ⟨f', hd'⟩; omega
  · rw [List.getElem?_set_ne hj] at hx
    have e2 : Last L rs i (qs ++ [r]) j = Last L rs i qs j := funext fun c => propext ((hl _ c).trans ⟨fun h => by
      rcases h with h | ⟨e, _⟩
      · exact h
      · exact absurd e.symm hj, .inl⟩)
    rw [e2]
    exact h.at_ _ _ hx
/-- at the end -/
theorem Bef.all (hg : Good rs) {B : List Int} (h : Bef L rs L.length [] B) {j : Nat} {b : Int} (hj : j ≤ L.length) (hb : B[j]? = some b) : (b = inf ∧ ∀ f c, ¬ Pre L rs j f c) ∨ LeastTo L rs j b := by
  rcases h.at_ j b hb with ⟨e, h1⟩ | ⟨h1, h2⟩
  · exact .inl ⟨e, fun f c hp => h1 c (hp.last hg hj)⟩
  · exact .inr ⟨h1.pre h.sub, fun d ⟨f, hd⟩ => h2 d (hd.last hg hj)⟩
theorem LeastTo.lt_inf (hg : Good rs) (hL : L.length ≤ 1000) {i : Nat} {b : Int} (h : LeastTo L rs i b) : 0 ≤ b ∧ b < inf := by
  obtain ⟨⟨f, hf⟩, -⟩ := h
  have h2 := hf.cost hg
  have h3 := hf.le
  unfold inf
  omega

/-! ### the ends behind each place -/

/-- what is looked at for the ends at a place: b is the least cost up to there, ss the steps taken so far -/
def Cand (E : Nat → List UInt8 → Option Int) (most b : Int) (ss : List Stp) (f : List UInt8) (c : Int) : Prop := b < inf ∧ ∃ s ∈ ss, ∃ g d, E s.next g = some d ∧ f = s.to_ ++ g ∧ c = d + s.cost ∧ b + c ≤ most
/-- the same, with a step under way -/
def CandW (E : Nat → List UInt8 → Option Int) (most b : Int) (ss : List Stp) (s : Stp) (done : List UInt8 → Bool) (f : List UInt8) (c : Int) : Prop :=
  Cand E most b ss f c ∨ (b < inf ∧ ∃ g d, done g = true ∧ E s.next g = some d ∧ f = s.to_ ++ g ∧ c = d + s.cost ∧ b + c ≤ most)
/-- F holds the least of each -/
def Holds (C : List UInt8 → Int → Prop) (F : List UInt8 → Option Int) : Prop := ∀ f c, F f = some c ↔ Least (C f) c
theorem Holds.congr {C C' : List UInt8 → Int → Prop} {F : List UInt8 → Option Int} (h : Holds C F) (hc : ∀ f c, C' f c ↔ C f c) : Holds C' F := by
  have e : C' = C := funext fun f => funext fun c => propext (hc f c)
  rw [e]; exact h
theorem Holds.none_ {C : List UInt8 → Int → Prop} {F : List UInt8 → Option Int} (h : Holds C F) (h0 : ∀ f c, C f c → 0 ≤ c) {f : List UInt8} (hf : F f = none) (c : Int) : ¬ C f c := fun hc => by
  obtain ⟨d, hd, -⟩ := least_of (P := C f) (fun c hc => h0 f c hc) c.toNat c (Nat.le_refl _) hc
  rw [(h f d).2 hd] at hf
  cases hf
theorem Holds.add_new {C : List UInt8 → Int → Prop} {F F' : List UInt8 → Option Int} (h : Holds C F) (h0 : ∀ f c, C f c → 0 ≤ c) {f0 : List UInt8} {c0 : Int} (hn : ∀ o, F f0 = some o → c0 < o) (h1 : F' f0 = some c0) (h2 : ∀ f, f ≠ f0 → F' f = F f) :
    Holds (fun f c => C f c ∨ (f = f0 ∧ c = c0)) F' := by
  intro f c
  by_cases hf : f = f0
  · subst hf
    rw [h1]
    constructor
    · intro e
      cases e
      refine ⟨.inr ⟨rfl, rfl⟩, fun d hd => ?_⟩
      rcases hd with hd | ⟨_, rfl⟩
      · cases ho : F f with
        | none => exact absurd hd (h.none_ h0 ho d)
        | some o =>
          have := hn o ho
          have := ((h f o).1 ho).2 d hd
          omega
      · exact Int.le_refl _
    · rintro ⟨hc, hle⟩
      have h3 := hle c0 (.inr ⟨rfl, rfl⟩)
      rcases hc with hc | ⟨_, rfl⟩
      · cases ho : F f with
        | none => exact absurd hc (h.none_ h0 ho c)
        | some o =>
          have := hn o ho
          have := ((h f o).1 ho).2 c hc
          omega
      · rfl
  · rw [h2 f hf, h f c]
    have e : (fun c => C f c ∨ (f = f0 ∧ c = c0)) = C f := funext fun c => propext ⟨fun h => by
      rcases h with h | ⟨e, _⟩
      · exact h
      · exact absurd e hf, .inl⟩
    show _ ↔ Least (fun c => C f c ∨ (f = f0 ∧ c = c0)) c
    rw [e]
theorem Holds.add_old {C : List UInt8 → Int → Prop} {F : List UInt8 → Option Int} (h : Holds C F) {f0 : List UInt8} {c0 o : Int} (ho : F f0 = some o) (hle : o ≤ c0) : Holds (fun f c => C f c ∨ (f = f0 ∧ c = c0)) F := by
  intro f c
  rw [h f c]
  show _ ↔ Least (fun c => C f c ∨ (f = f0 ∧ c = c0)) c
  by_cases hf : f = f0
  · subst hf
    have h1 := (h f o).1 ho
    constructor
    · rintro ⟨h2, h3⟩
      exact ⟨.inl h2, fun d hd => by
        rcases hd with hd | ⟨_, rfl⟩
        · exact h3 d hd
        · have := h3 o h1.1; omega⟩
    · rintro ⟨h2, h3⟩
      have h4 := h3 o (.inl h1.1)
      refine ⟨?_, fun d hd => h3 d (.inl hd)⟩
      rcases h2 with h2 | ⟨_, rfl⟩
      · exact h2
      · have : o = c := by omega
        subst this
        exact h1.1
  · have e : (fun c => C f c ∨ (f = f0 ∧ c = c0)) = C f := funext fun c => propext ⟨fun h => by
      rcases h with h | ⟨e, _⟩
      · exact h
      · exact absurd e hf, .inl⟩
    rw [e]

section
variable {E : Nat → List UInt8 → Option Int} {most b : Int} {ss : List Stp} {s : Stp}
theorem candW_start (f : List UInt8) (c : Int) : CandW E most b ss s (fun _ => false) f c ↔ Cand E most b ss f c :=
  ⟨fun h => by
    rcases h with h | ⟨_, _, _, h, _⟩
    · exact h
    · (cases h), .inl⟩
theorem candW_end {done : List UInt8 → Bool} (hd : ∀ g d, E s.next g = some d → done g = true) (f : List UInt8) (c : Int) : CandW E most b ss s done f c ↔ Cand E most b (ss ++ [s]) f c := by
  constructor
  · rintro (⟨h1, s', h2, h3⟩ | ⟨h1, g, d, h2, h3⟩)
    · exact ⟨h1, s', List.mem_append_left _ h2, h3⟩
    · exact ⟨h1, s, List.mem_append_right _ List.mem_cons_self, g, d, h3⟩
  · rintro ⟨h1, s', h2, g, d, h3⟩
    rcases List.mem_append.1 h2 with h2 | h2
    · exact .inl ⟨h1, s', h2, g, d, h3⟩
    · rw [List.mem_singleton.1 h2] at h3
      exact .inr ⟨h1, g, d, hd g d h3.1, h3⟩
/-- an entry more, that is too dear -/
theorem candW_dear {done done' : List UInt8 → Bool} {g : List UInt8} {d : Int} (hg : E s.next g = some d) (hx : ¬ (b < inf ∧ b + (d + s.cost) ≤ most)) (h1 : done' g = true) (h2 : ∀ y, y ≠ g → done' y = done y) (f : List UInt8) (c : Int) :
    CandW E most b ss s done' f c ↔ CandW E most b ss s done f c := by
  constructor
  · rintro (h | ⟨h3, y, e, h4, h5, h6, h7, h8⟩)
    · exact .inl h
    · by_cases hy : y = g
      · subst hy
        rw [hg] at h5
        cases h5
        exact absurd ⟨h3, by omega⟩ hx
      · exact .inr ⟨h3, y, e, by rw [← h2 y hy]; exact h4, h5, h6, h7, h8⟩
  · rintro (h | ⟨h3, y, e, h4, h5, h6, h7, h8⟩)
    · exact .inl h
    · by_cases hy : y = g
      · subst hy
        exact .inr ⟨h3, y, e, h1, h5, h6, h7, h8⟩
      · exact .inr ⟨h3, y, e, by rw [h2 y hy]; exact h4, h5, h6, h7, h8⟩
/-- an entry more -/
theorem candW_more {done done' : List UInt8 → Bool} {g : List UInt8} {d : Int} (hg : E s.next g = some d) (hb : b < inf) (hx : b + (d + s.cost) ≤ most) (h1 : done' g = true) (h2 : ∀ y, y ≠ g → done' y = done y) (f : List UInt8) (c : Int) :
    CandW E most b ss s done' f c ↔ CandW E most b ss s done f c ∨ (f = s.to_ ++ g ∧ c = d + s.cost) := by
  constructor
  · rintro (h | ⟨h3, y, e, h4, h5, h6, h7, h8⟩)
    · exact .inl (.inl h)
    · by_cases hy : y = g
      · subst hy
        rw [hg] at h5
        cases h5
        exact .inr ⟨h6, h7⟩
      · exact .inl (.inr ⟨h3, y, e, by rw [← h2 y hy]; exact h4, h5, h6, h7, h8⟩)
  · rintro ((h | ⟨h3, y, e, h4, h5, h6, h7, h8⟩) | ⟨rfl, rfl⟩)
    · exact .inl h
    · by_cases hy : y = g
      · subst hy
        exact .inr ⟨h3, y, e, h1, h5, h6, h7, h8⟩
      · exact .inr ⟨h3, y, e, by rw [h2 y hy]; exact h4, h5, h6, h7, h8⟩
    · exact .inr ⟨hb, g, d, h1, hg, rfl, rfl, hx⟩
end

/-- what the ends at place i have to be -/
def EndsOk (L : List (List UInt8)) (rs : List R) (most : Int) (i : Nat) (F : List UInt8 → Option Int) : Prop :=
  if i = L.length then ∀ f c, F f = some c ↔ f = [] ∧ c = 0 else ∀ f c, F f = some c ↔ ∃ B, LeastTo L rs i B ∧ EndAt L rs most i B f c
theorem leastAt_end (hg : Good rs) (f : List UInt8) (c : Int) : LeastAt L rs L.length f c ↔ f = [] ∧ c = 0 := by
  have hr : ∀ f c, Re L rs L.length f c ↔ f = [] ∧ c = 0 := by
    intro f c
    constructor
    · intro h
      generalize hi : L.length = i at h
      cases h with
      | nil => exact ⟨rfl, rfl⟩
      | cons h1 h2 h3 =>
        have := fits_le h2
        have := hg.some_ _ h1
        omega
    · rintro ⟨rfl, rfl⟩
      exact Re.nil
  constructor
  · exact fun h => (hr f c).1 h.1
  · rintro ⟨rfl, rfl⟩
    exact ⟨(hr _ _).2 ⟨rfl, rfl⟩, fun d hd => by have := ((hr _ _).1 hd).2; omega⟩
/-- the ends behind a step are least costs -/
theorem EndsOk.least (hg : Good rs) {most : Int} {i : Nat} {F : List UInt8 → Option Int} (h : EndsOk L rs most i F) {f : List UInt8} {c : Int} (hf : F f = some c) : LeastAt L rs i f c := by
  unfold EndsOk at h
  split at h
  · rename_i e
    subst e
    exact (leastAt_end hg f c).2 ((h f c).1 hf)
  · obtain ⟨B, -, h1, -⟩ := (h f c).1 hf
    exact h1
theorem cand_re (hg : Good rs) {most b : Int} {i : Nat} {E : Nat → List UInt8 → Option Int} (hE : ∀ j, i < j → j ≤ L.length → EndsOk L rs most j (E j)) {ss : List Stp} (hs : ∀ s ∈ ss, s ∈ steps L rs i) {f : List UInt8} {c : Int} (h : Cand E most b ss f c) : Re L rs i f c ∧ b + c ≤ most := by
  obtain ⟨-, s, h1, g, d, h2, rfl, rfl, h3⟩ := h
  obtain ⟨r, h4, h5, rfl⟩ := steps_mem (hs s h1)
  have h6 := steps_fits hg (hs _ h1)
  refine ⟨?_, h3⟩
  have h7 := ((hE _ h6.1 h6.2.1).least hg h2).1
  have := Re.cons h4 h5 h7
  rwa [Int.add_comm] at this
theorem candW_re (hg : Good rs) {most b : Int} {i : Nat} {E : Nat → List UInt8 → Option Int} (hE : ∀ j, i < j → j ≤ L.length → EndsOk L rs most j (E j)) {ss : List Stp} (hs : ∀ s ∈ ss, s ∈ steps L rs i) {s : Stp} (hs2 : s ∈ steps L rs i) {done : List UInt8 → Bool} {f : List UInt8} {c : Int} (h : CandW E most b ss s done f c) : Re L rs i f c ∧ b + c ≤ most := by
  rcases h with h | ⟨h1, g, d, -, h2⟩
  · exact cand_re hg hE hs h
  · exact cand_re hg hE (ss := [s]) (fun x hx => by rw [List.mem_singleton.1 hx]; exact hs2) ⟨h1, s, List.mem_cons_self, g, d, h2⟩
/-- all steps taken: the ends at the place -/
theorem ends_ok (hg : Good rs) (hL : L.length ≤ 1000) {most b : Int} {i : Nat} (hi : i < L.length) {E : Nat → List UInt8 → Option Int} (hE : ∀ j, i < j → j ≤ L.length → EndsOk L rs most j (E j)) (hb : (b = inf ∧ ∀ f c, ¬ Pre L rs i f c) ∨ LeastTo L rs i b)
    {F : List UInt8 → Option Int} (hF : Holds (Cand E most b (steps L rs i)) F) : EndsOk L rs most i F := by
  unfold EndsOk
  rw [if_neg (by omega)]
  intro f c
  rw [hF f c]
  rcases hb with ⟨rfl, hno⟩ | hb
  · constructor
    · rintro ⟨⟨h, _⟩, _⟩
      exact absurd h (Int.lt_irrefl _)
    · rintro ⟨B, ⟨⟨p, hp⟩, -⟩, -⟩
      exact absurd hp (hno _ _)
  · have hfwd : ∀ c, EndAt L rs most i b f c → Cand E most b (steps L rs i) f c := by
      intro c h
      obtain ⟨r, g, d, h1, h2, rfl, rfl, h3, h4⟩ := EndAt.step hg hb hi h
      have h5 := steps_fits hg (mem_steps h1 h2)
      obtain ⟨⟨p, hp⟩, -⟩ := id hb
      obtain ⟨B', hB', -⟩ := LeastTo.some_ hg (Pre.snoc hp h1 h2)
      refine ⟨(LeastTo.lt_inf hg hL hb).2, stp i r, mem_steps h1 h2, g, d, ?_, rfl, Int.add_comm _ _, h.2⟩
      have h6 := hE _ h5.1 h5.2.1
      unfold EndsOk at h6
      split at h6
      · rename_i e
        refine (h6 g d).2 ((leastAt_end (L := L) hg g d).1 ?_)
        have e' : i + r.from_.length = L.length := e
        rw [← e']
        exact h3
      · exact (h6 g d).2 ⟨B', hB', h4 B' hB'⟩
    constructor
    · rintro ⟨h1, h2⟩
      obtain ⟨h3, h4⟩ := cand_re hg hE (fun s hs => hs) h1
      obtain ⟨c0, h5, h6⟩ := LeastAt.some_ hg h3
      have h7 := h2 c0 (hfwd c0 ⟨h5, by omega⟩)
      have : c0 = c := by omega
      subst this
      exact ⟨b, hb, h5, h4⟩
    · rintro ⟨B, hB, h1⟩
      have : B = b := hB.uniq hb
      subst this
      refine ⟨hfwd c h1, fun d hd => ?_⟩
      exact h1.1.2 d (cand_re hg hE (fun s hs => hs) hd).1
/-- too many ends at a place: too many forms -/
theorem many_ends (hg : Good rs) {most b : Int} {i : Nat} (hb : (b = inf ∧ ∀ f c, ¬ Pre L rs i f c) ∨ LeastTo L rs i b) {C : List UInt8 → Int → Prop} (hC : ∀ f c, C f c → b < inf ∧ Re L rs i f c ∧ b + c ≤ most) {F : List UInt8 → Option Int} (hF : Holds C F)
    {fs : List (List UInt8)} (hn : fs.Nodup) (hl : 1000 < fs.length) (hf : ∀ f ∈ fs, (F f).isSome = true) : Many L rs most := by
  have hh : ∀ f ∈ fs, ∃ c, C f c := fun f hm => by
    obtain ⟨c, hc⟩ := Option.isSome_iff_exists.1 (hf f hm)
    exact ⟨c, ((hF f c).1 hc).1⟩
  rcases hb with ⟨rfl, -⟩ | hb
  · obtain ⟨f, hm⟩ : ∃ f, f ∈ fs := ⟨fs[0], List.getElem_mem (by omega)⟩
    obtain ⟨c, hc⟩ := hh f hm
    exact absurd (hC f c hc).1 (Int.lt_irrefl _)
  · refine many_of_ends hb hn hl fun f hm => ?_
    obtain ⟨c, hc⟩ := hh f hm
    obtain ⟨-, h1, h2⟩ := hC f c hc
    obtain ⟨c0, h3, h4⟩ := LeastAt.some_ hg h1
    exact ⟨c0, h3, by omega⟩
theorem ends_zero (hg : Good rs) {most : Int} (h0 : 0 < L.length) {F : List UInt8 → Option Int} (h : EndsOk L rs most 0 F) (f : List UInt8) (c : Int) : F f = some c ↔ LeastAt L rs 0 f c ∧ c ≤ most := by
  unfold EndsOk at h
  rw [if_neg (by omega)] at h
  have hz : LeastTo L rs 0 0 := ⟨⟨[], Pre.nil⟩, fun d ⟨f, hd⟩ => (hd.cost hg).1⟩
  rw [h f c]
  constructor
  · rintro ⟨B, hB, h1, h2⟩
    have : B = 0 := hB.uniq hz
    subst this
    exact ⟨h1, by omega⟩
  · rintro ⟨h1, h2⟩
    exact ⟨0, hz, h1, by omega⟩
/-- the list of the forms -/
theorem forms_of (hg : Good rs) {most : Int} (h0 : 0 < L.length) {F : List UInt8 → Option Int} (h : EndsOk L rs most 0 F) {lt : List UInt8 → List UInt8 → Prop} {out : List (List UInt8)} {costs : List Int} (ho : out.Pairwise lt) (hm : ∀ f, f ∈ out ↔ (F f).isSome = true) (hl : out.length ≤ 1000)
    (hc : costs.length = out.length) (hk : ∀ (k : Nat) (f : List UInt8), out[k]? = some f → costs[k]? = F f) : Forms lt L rs most out costs := by
  refine ⟨ho, hc, hl, fun k f c h1 h2 => ?_, fun f c h1 h2 => ?_⟩
  · rw [hk k f h1] at h2
    exact (ends_zero hg h0 h f c).1 h2
  · obtain ⟨c0, h3, h4⟩ := LeastAt.some_ hg h1
    rw [hm f, (ends_zero hg h0 h f c0).2 ⟨h3, by omega⟩]
    rfl
theorem many_out (hg : Good rs) {most : Int} (h0 : 0 < L.length) {F : List UInt8 → Option Int} (h : EndsOk L rs most 0 F) {out : List (List UInt8)} (hn : out.Nodup) (hm : ∀ f, f ∈ out ↔ (F f).isSome = true) (hl : 1000 < out.length) : Many L rs most := by
  refine ⟨out, hn, hl, fun f hf => ?_⟩
  obtain ⟨c, hc⟩ := Option.isSome_iff_exists.1 ((hm f).1 hf)
  obtain ⟨h1, h2⟩ := (ends_zero hg h0 h f c).1 hc
  exact ⟨c, h1.1, h2⟩
end

end Fo
