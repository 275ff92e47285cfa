/-
  Several texts in one: ZRt1, ZRt2. Conditions: as each law says.
-/
import Derived.Test.YtdchjacccmajcaaGreatDoorZMPlain
import Derived.Test.YtdchjacccmajcaaGreatDoorZMBase
import Derived.Test.YtdchjacccmajcaaGreatDoorZFormN
import Derived.Test.YtdchjacccmajcaaGreatDoorZRew3
namespace Fo
open Al (R fits)
open Go.Proofs.YtdchjacccmajcaaGreatDoor (putE)

section
variable {L : List (List UInt8)} {rs qs : List R} {i : Nat} {r : R} {b d : Int}

/-- the least cost from a place to the end -/
def LeastFrom (L : List (List UInt8)) (rs : List R) (i : Nat) : Int → Prop := Least fun c => ∃ f, Re L rs i f c
def RestOk (L : List (List UInt8)) (rs : List R) (i : Nat) (b : Int) : Prop := (b = -1 ∧ ∀ f c, ¬ Re L rs i f c) ∨ LeastFrom L rs i b
/-- from a place on, the first rule out of qs -/
def RCand (L : List (List UInt8)) (rs : List R) (i : Nat) (qs : List R) (c : Int) : Prop := ∃ r ∈ qs, fits L r i = true ∧ ∃ f d, Re L rs (i + r.from_.length) f d ∧ c = r.cost + d
def RestW (L : List (List UInt8)) (rs : List R) (i : Nat) (qs : List R) (b : Int) : Prop := (b = -1 ∧ ∀ c, ¬ RCand L rs i qs c) ∨ (0 ≤ b ∧ Least (RCand L rs i qs) b)

theorem RestW.start (i : Nat) : RestW L rs i [] (-1) := .inl ⟨rfl, fun c h => by obtain ⟨r, hr, _⟩ := h; cases hr⟩
theorem rcand_snoc {c : Int} : RCand L rs i (qs ++ [r]) c ↔ RCand L rs i qs c ∨ (fits L r i = true ∧ ∃ f d, Re L rs (i + r.from_.length) f d ∧ c = r.cost + d) := by
  constructor
  · rintro ⟨q, hq, h⟩
    rcases List.mem_append.1 hq with hq | hq
    · exact .inl ⟨q, hq, h⟩
    · rw [List.mem_singleton.1 hq] at h; exact .inr h
  · rintro (⟨q, hq, h⟩ | h)
    · exact ⟨q, List.mem_append_left _ hq, h⟩
    · exact ⟨r, List.mem_append_right _ List.mem_cons_self, h⟩
theorem RestW.skip (h : RestW L rs i qs b) (hn : fits L r i = true → ∀ f d, ¬ Re L rs (i + r.from_.length) f d) : RestW L rs i (qs ++ [r]) b := by
  have e : RCand L rs i (qs ++ [r]) = RCand L rs i qs := funext fun c => propext (rcand_snoc.trans ⟨fun h => by
    rcases h with h | ⟨h1, f, d, h2, _⟩
    · exact h
    · exact absurd h2 (hn h1 f d), .inl⟩)
  unfold RestW
  rw [e]; exact h
theorem RestW.step (h : RestW L rs i qs b) (hf : fits L r i = true) (hl : LeastFrom L rs (i + r.from_.length) d) (h0 : 0 ≤ r.cost + d) : RestW L rs i (qs ++ [r]) (if b < 0 ∨ r.cost + d < b then r.cost + d else b) := by
  obtain ⟨⟨f0, hre⟩, hle⟩ := hl
  have hnew : RCand L rs i (qs ++ [r]) (r.cost + d) := rcand_snoc.2 (.inr ⟨hf, f0, d, hre, rfl⟩)
  right
  rcases h with ⟨rfl, hno⟩ | ⟨hb, h1, h2⟩
  · rw [if_pos (.inl (by omega))]
    refine ⟨h0, hnew, fun e he => ?_⟩
    rcases rcand_snoc.1 he with he | ⟨_, f, d', h3, rfl⟩
    · exact absurd he (hno e)
    · have := hle d' ⟨f, h3⟩; omega
  · by_cases hlt : r.cost + d < b
    · rw [if_pos (.inr hlt)]
      refine ⟨h0, hnew, fun e he => ?_⟩
      rcases rcand_snoc.1 he with he | ⟨_, f, d', h3, rfl⟩
      · have := h2 e he; omega
      · have := hle d' ⟨f, h3⟩; omega
    · rw [if_neg (by omega)]
      refine ⟨hb, rcand_snoc.2 (.inl h1), fun e he => ?_⟩
      rcases rcand_snoc.1 he with he | ⟨_, f, d', h3, rfl⟩
      · exact h2 e he
      · have := hle d' ⟨f, h3⟩; omega
theorem rcand_all (hi : i < L.length) (c : Int) : RCand L rs i rs c ↔ ∃ f, Re L rs i f c := by
  constructor
  · rintro ⟨r, hr, hf, f, d, h1, rfl⟩
    exact ⟨_, Re.cons hr hf h1⟩
  · rintro ⟨f, hf⟩
    generalize hi' : i = i' at hf
    cases hf with
    | nil => omega
    | cons hr hf h1 =>
      subst hi'
      exact ⟨_, hr, hf, _, _, h1, rfl⟩
theorem RestW.done (h : RestW L rs i rs b) (hi : i < L.length) : RestOk L rs i b := by
  have e' : RCand L rs i rs = fun c => ∃ f, Re L rs i f c := funext fun c => propext (rcand_all hi c)
  rcases h with ⟨h1, h2⟩ | ⟨_, h⟩
  · exact .inl ⟨h1, fun f c hf => h2 c ((rcand_all hi c).2 ⟨f, hf⟩)⟩
  · right
    unfold LeastFrom
    rw [← e']
    exact h
theorem RestW.bound (hg : Good rs) (hL : L.length ≤ 1000) (hq : ∀ r ∈ qs, r ∈ rs) (h : RestW L rs i qs b) : -1 ≤ b ∧ b ≤ 1000000 := by
  rcases h with ⟨rfl, -⟩ | ⟨h0, ⟨r, hr, hf, f, d, h1, rfl⟩, -⟩
  · omega
  · have := (Re.cons (hq r hr) hf h1).cost hg
    omega
theorem RestOk.last (hg : Good rs) : RestOk L rs L.length 0 := .inr ⟨⟨[], Re.nil⟩, fun d ⟨f, hd⟩ => (hd.cost hg).1⟩
theorem RestOk.bound (hg : Good rs) (hL : L.length ≤ 1000) (h : RestOk L rs i b) : -1 ≤ b ∧ b ≤ 1000000 := by
  rcases h with ⟨rfl, -⟩ | ⟨⟨f, hf⟩, -⟩
  · omega
  · have := hf.cost hg
    omega
theorem RestOk.neg (hg : Good rs) (h : RestOk L rs i b) (hb : b < 0) (f : List UInt8) (c : Int) : ¬ Re L rs i f c := by
  rcases h with ⟨-, h⟩ | ⟨⟨g, h⟩, -⟩
  · exact h f c
  · have := (h.cost hg).1
    omega
theorem RestOk.pos (h : RestOk L rs i b) (hb : 0 ≤ b) : LeastFrom L rs i b := by
  rcases h with ⟨h, -⟩ | h
  · omega
  · exact h
theorem RestOk.none_ (hg : Good rs) {lt : List UInt8 → List UInt8 → Prop} {most : Int} (h : RestOk L rs 0 b) (hm : b < 0 ∨ most < b) : Forms lt L rs most [] [] := by
  refine ⟨List.Pairwise.nil, rfl, Nat.zero_le _, fun k f c h1 => by simp at h1, fun f c h1 h2 => ?_⟩
  exfalso
  by_cases hb : b < 0
  · exact h.neg hg hb f c h1
  · have := (h.pos (by omega)).2 c ⟨f, h1⟩
    omega

/-! ### the beginnings at each place -/

/-- what comes to place j by one step from the beginnings at places up to i; at place i those of D -/
def Cnd (L : List (List UInt8)) (rs : List R) (most : Int) (rest : Nat → Int) (F : Nat → List UInt8 → Option Int) (i : Nat) (D : List UInt8 → R → Prop) (j : Nat) (f : List UInt8) (c : Int) : Prop :=
  (j = 0 ∧ f = [] ∧ c = 0) ∨ ∃ (i' : Nat) (r : R) (g : List UInt8) (d : Int), (i' < i ∨ (i' = i ∧ D g r)) ∧ r ∈ rs ∧ fits L r i' = true ∧ j = i' + r.from_.length ∧ F i' g = some d ∧ f = g ++ r.to_ ∧ c = d + r.cost ∧ 0 ≤ rest j ∧ c + rest j ≤ most

variable {most : Int} {rest : Nat → Int} {F F' : Nat → List UInt8 → Option Int} {D D' : List UInt8 → R → Prop} {x : List UInt8} {r0 : R} {d0 : Int}

theorem cnd_skip (hx : F i x = some d0) (hD : ∀ g r, D' g r ↔ D g r ∨ (g = x ∧ r = r0)) (hn : ¬ (fits L r0 i = true ∧ 0 ≤ rest (i + r0.from_.length) ∧ d0 + r0.cost + rest (i + r0.from_.length) ≤ most)) (j : Nat) (f : List UInt8) (c : Int) :
    Cnd L rs most rest F i D' j f c ↔ Cnd L rs most rest F i D j f c := by
  constructor
  · rintro (h | ⟨i', r, g, d, h1, h2, h3, h4, h5, h6, h7, h8, h9⟩)
    · exact .inl h
    · rcases h1 with h1 | ⟨rfl, h1⟩
      · exact .inr ⟨i', r, g, d, .inl h1, h2, h3, h4, h5, h6, h7, h8, h9⟩
      · rcases (hD g r).1 h1 with h1 | ⟨rfl, rfl⟩
        · exact .inr ⟨i', r, g, d, .inr ⟨rfl, h1⟩, h2, h3, h4, h5, h6, h7, h8, h9⟩
        · rw [hx] at h5
          cases h5
          subst h4 h7
          exact absurd ⟨h3, h8, h9⟩ hn
  · rintro (h | ⟨i', r, g, d, h1, h2⟩)
    · exact .inl h
    · refine .inr ⟨i', r, g, d, ?_, h2⟩
      rcases h1 with h1 | ⟨h0, h1⟩
      · exact .inl h1
      · exact .inr ⟨h0, (hD g r).2 (.inl h1)⟩
theorem cnd_add (hx : F i x = some d0) (hD : ∀ g r, D' g r ↔ D g r ∨ (g = x ∧ r = r0)) (hr : r0 ∈ rs) (hf : fits L r0 i = true) (h0 : 0 ≤ rest (i + r0.from_.length)) (hm : d0 + r0.cost + rest (i + r0.from_.length) ≤ most) (j : Nat) (f : List UInt8) (c : Int) :
    Cnd L rs most rest F i D' j f c ↔ Cnd L rs most rest F i D j f c ∨ (j = i + r0.from_.length ∧ f = x ++ r0.to_ ∧ c = d0 + r0.cost) := by
  constructor
  · rintro (h | ⟨i', r, g, d, h1, h2, h3, h4, h5, h6, h7, h8, h9⟩)
    · exact .inl (.inl h)
    · rcases h1 with h1 | ⟨rfl, h1⟩
      · exact .inl (.inr ⟨i', r, g, d, .inl h1, h2, h3, h4, h5, h6, h7, h8, h9⟩)
      · rcases (hD g r).1 h1 with h1 | ⟨rfl, rfl⟩
        · exact .inl (.inr ⟨i', r, g, d, .inr ⟨rfl, h1⟩, h2, h3, h4, h5, h6, h7, h8, h9⟩)
        · rw [hx] at h5
          cases h5
          exact .inr ⟨h4, h6, h7⟩
  · rintro ((h | ⟨i', r, g, d, h1, h2⟩) | ⟨rfl, rfl, rfl⟩)
    · exact .inl h
    · refine .inr ⟨i', r, g, d, ?_, h2⟩
      rcases h1 with h1 | ⟨h0, h1⟩
      · exact .inl h1
      · exact .inr ⟨h0, (hD g r).2 (.inl h1)⟩
    · exact .inr ⟨i, r0, x, d0, .inr ⟨rfl, (hD _ _).2 (.inr ⟨rfl, rfl⟩)⟩, hr, hf, rfl, hx, rfl, rfl, h0, hm⟩
theorem cnd_congr (hF : ∀ i' ≤ i, F' i' = F i') (j : Nat) (f : List UInt8) (c : Int) : Cnd L rs most rest F' i D j f c ↔ Cnd L rs most rest F i D j f c := by
  constructor
  · rintro (h | ⟨i', r, g, d, h1, h2, h3, h4, h5, h6⟩)
    · exact .inl h
    · exact .inr ⟨i', r, g, d, h1, h2, h3, h4, by rw [← hF i' (by rcases h1 with h | ⟨h, _⟩ <;> omega)]; exact h5, h6⟩
  · rintro (h | ⟨i', r, g, d, h1, h2, h3, h4, h5, h6⟩)
    · exact .inl h
    · exact .inr ⟨i', r, g, d, h1, h2, h3, h4, by rw [hF i' (by rcases h1 with h | ⟨h, _⟩ <;> omega)]; exact h5, h6⟩
theorem cnd_same (hD : ∀ g r d, F i g = some d → r ∈ rs → (D' g r ↔ D g r)) (j : Nat) (f : List UInt8) (c : Int) : Cnd L rs most rest F i D' j f c ↔ Cnd L rs most rest F i D j f c := by
  constructor
  · rintro (h | ⟨i', r, g, d, h1, h2, h3, h4, h5, h6⟩)
    · exact .inl h
    · refine .inr ⟨i', r, g, d, ?_, h2, h3, h4, h5, h6⟩
      rcases h1 with h1 | ⟨rfl, h1⟩
      · exact .inl h1
      · exact .inr ⟨rfl, (hD g r d h5 h2).1 h1⟩
  · rintro (h | ⟨i', r, g, d, h1, h2, h3, h4, h5, h6⟩)
    · exact .inl h
    · refine .inr ⟨i', r, g, d, ?_, h2, h3, h4, h5, h6⟩
      rcases h1 with h1 | ⟨rfl, h1⟩
      · exact .inl h1
      · exact .inr ⟨rfl, (hD g r d h5 h2).2 h1⟩
theorem cnd_next (hD : ∀ g r d, F i g = some d → r ∈ rs → D g r) (j : Nat) (f : List UInt8) (c : Int) : Cnd L rs most rest F (i + 1) (fun _ _ => False) j f c ↔ Cnd L rs most rest F i D j f c := by
  constructor
  · rintro (h | ⟨i', r, g, d, h1, h2, h3, h4, h5, h6⟩)
    · exact .inl h
    · refine .inr ⟨i', r, g, d, ?_, h2, h3, h4, h5, h6⟩
      rcases h1 with h1 | ⟨_, h1⟩
      · by_cases hi : i' = i
        · subst hi
          exact .inr ⟨rfl, hD g r d h5 h2⟩
        · exact .inl (by omega)
      · exact absurd h1 id
  · rintro (h | ⟨i', r, g, d, h1, h2⟩)
    · exact .inl h
    · refine .inr ⟨i', r, g, d, .inl ?_, h2⟩
      rcases h1 with h1 | ⟨h0, _⟩ <;> omega

/-- the beginnings hold the least of what comes -/
def Beg (L : List (List UInt8)) (rs : List R) (most : Int) (rest : Nat → Int) (i : Nat) (D : List UInt8 → R → Prop) (F : Nat → List UInt8 → Option Int) : Prop :=
  ∀ j, j ≤ L.length → Holds (Cnd L rs most rest F i D j) (F j)
theorem Beg.sound (hg : Good rs) (h0 : 0 ≤ rest 0 ∧ rest 0 ≤ most) (h : Beg L rs most rest i D F) (j : Nat) : j ≤ L.length → ∀ f c, Cnd L rs most rest F i D j f c → Pre L rs j f c ∧ 0 ≤ rest j ∧ c + rest j ≤ most := by
  induction j using Nat.strongRecOn with
  | _ j ih =>
    intro hj f c hc
    rcases hc with ⟨rfl, rfl, rfl⟩ | ⟨i', r, g, d, -, hr, hf, rfl, hF, rfl, rfl, h1, h2⟩
    · exact ⟨Pre.nil, by omega, by omega⟩
    · have hp := hg.some_ r hr
      have h3 := (ih i' (by omega) (by omega) g d ((h i' (by omega) g d).1 hF).1).1
      exact ⟨Pre.snoc h3 hr hf, h1, h2⟩
theorem Beg.pre (hg : Good rs) (h0 : 0 ≤ rest 0 ∧ rest 0 ≤ most) (h : Beg L rs most rest i D F) {j : Nat} (hj : j ≤ L.length) {f : List UInt8} {c : Int} (hf : F j f = some c) : Pre L rs j f c ∧ 0 ≤ rest j ∧ c + rest j ≤ most := h.sound hg h0 j hj f c ((h j hj f c).1 hf).1
theorem Pre.short (h0 : ∀ r ∈ rs, 0 < r.from_.length ∧ r.to_.length ≤ 3) {f : List UInt8} {c : Int} (h : Pre L rs i f c) : f.length ≤ 3 * i := by
  induction h with
  | nil => simp
  | snoc hp hr hf ih =>
    have h1 := h0 _ hr
    rw [List.length_append]
    omega
theorem Beg.short (hg : Good rs) (h0 : 0 ≤ rest 0 ∧ rest 0 ≤ most) (hs : ∀ r ∈ rs, 0 < r.from_.length ∧ r.to_.length ≤ 3) (hL : L.length ≤ 1000) (h : Beg L rs most rest i D F) {j : Nat} (hj : j ≤ L.length) {f : List UInt8} {c : Int} (hf : F j f = some c) : f.length ≤ 3000 ∧ 0 ≤ c ∧ c ≤ 1000000 := by
  have h1 := (h.pre hg h0 hj hf).1
  have h2 := h1.short hs
  have h3 := h1.cost hg
  omega
/-- the first beginning -/
def start0 : Nat → List UInt8 → Option Int := fun j => if j = 0 then putE (fun _ => none) [] 0 else fun _ => none
theorem Beg.start : Beg L rs most rest 0 (fun _ _ => False) start0 := by
  intro j hj f c
  have e : ∀ c, Cnd L rs most rest start0 0 (fun _ _ => False) j f c ↔ (j = 0 ∧ f = [] ∧ c = 0) := by
    intro c
    constructor
    · rintro (h | ⟨i', r, g, d, h1, -⟩)
      · exact h
      · rcases h1 with h1 | ⟨_, h1⟩
        · omega
        · exact absurd h1 id
    · exact .inl
  unfold start0 putE
  constructor
  · intro h
    by_cases hj0 : j = 0
    · rw [if_pos hj0] at h
      by_cases hf : f = []
      · simp only [hf, if_true, Option.some.injEq] at h
        exact ⟨(e c).2 ⟨hj0, hf, h.symm⟩, fun d hd => by have := (e d).1 hd; omega⟩
      · simp only [hf, if_false] at h
        cases h
    · rw [if_neg hj0] at h
      cases h
  · rintro ⟨h, -⟩
    obtain ⟨h1, h2, h3⟩ := (e c).1 h
    rw [if_pos h1, h2, h3]
    rfl
theorem Beg.skip (h : Beg L rs most rest i D F) (hx : F i x = some d0) (hD : ∀ g r, D' g r ↔ D g r ∨ (g = x ∧ r = r0)) (hn : ¬ (fits L r0 i = true ∧ 0 ≤ rest (i + r0.from_.length) ∧ d0 + r0.cost + rest (i + r0.from_.length) ≤ most)) : Beg L rs most rest i D' F :=
  fun j hj => (h j hj).congr fun f c => cnd_skip hx hD hn j f c
theorem Beg.old (h : Beg L rs most rest i D F) (hx : F i x = some d0) (hD : ∀ g r, D' g r ↔ D g r ∨ (g = x ∧ r = r0)) (hr : r0 ∈ rs) (hf : fits L r0 i = true) (h0 : 0 ≤ rest (i + r0.from_.length)) (hm : d0 + r0.cost + rest (i + r0.from_.length) ≤ most)
    {o : Int} (ho : F (i + r0.from_.length) (x ++ r0.to_) = some o) (hle : o ≤ d0 + r0.cost) : Beg L rs most rest i D' F := by
  intro j hj
  by_cases hjn : j = i + r0.from_.length
  · subst hjn
    exact ((h _ hj).add_old ho hle).congr fun f c => (cnd_add hx hD hr hf h0 hm _ f c).trans (or_congr Iff.rfl ⟨fun h => h.2, fun h => ⟨rfl, h⟩⟩)
  · exact (h j hj).congr fun f c => (cnd_add hx hD hr hf h0 hm j f c).trans ⟨fun h => by
      rcases h with h | h
      · exact h
      · exact absurd h.1 hjn, .inl⟩
theorem Beg.new (hg : Good rs) (hz : 0 ≤ rest 0 ∧ rest 0 ≤ most) (h : Beg L rs most rest i D F) (hx : F i x = some d0) (hD : ∀ g r, D' g r ↔ D g r ∨ (g = x ∧ r = r0)) (hr : r0 ∈ rs) (hf : fits L r0 i = true) (h0 : 0 ≤ rest (i + r0.from_.length)) (hm : d0 + r0.cost + rest (i + r0.from_.length) ≤ most)
    (hn : ∀ o, F (i + r0.from_.length) (x ++ r0.to_) = some o → d0 + r0.cost < o) : Beg L rs most rest i D' (fun j => if j = i + r0.from_.length then putE (F (i + r0.from_.length)) (x ++ r0.to_) (d0 + r0.cost) else F j) := by
  have hp := hg.some_ r0 hr
  have hF : ∀ i' ≤ i, (fun j => if j = i + r0.from_.length then putE (F (i + r0.from_.length)) (x ++ r0.to_) (d0 + r0.cost) else F j) i' = F i' := fun i' hi => if_neg (by omega)
  intro j hj
  by_cases hjn : j = i + r0.from_.length
  · subst hjn
    simp only [if_true]
    refine ((h _ hj).add_new (fun f c hc => ((h.sound hg hz _ hj f c hc).1.cost hg).1) hn (by unfold putE; rw [if_pos rfl]) (fun f hf => by unfold putE; rw [if_neg hf])).congr fun f c => ?_
    exact (cnd_congr hF _ f c).trans ((cnd_add hx hD hr hf h0 hm _ f c).trans (or_congr Iff.rfl ⟨fun h => h.2, fun h => ⟨rfl, h⟩⟩))
  · simp only [if_neg hjn]
    exact (h j hj).congr fun f c => (cnd_congr hF _ f c).trans ((cnd_add hx hD hr hf h0 hm j f c).trans ⟨fun h => by
      rcases h with h | h
      · exact h
      · exact absurd h.1 hjn, .inl⟩)
theorem Beg.same (h : Beg L rs most rest i D F) (hD : ∀ g r d, F i g = some d → r ∈ rs → (D' g r ↔ D g r)) : Beg L rs most rest i D' F := fun j hj => (h j hj).congr fun f c => cnd_same hD j f c
theorem Beg.next (h : Beg L rs most rest i D F) (hD : ∀ g r d, F i g = some d → r ∈ rs → D g r) : Beg L rs most rest (i + 1) (fun _ _ => False) F := fun j hj => (h j hj).congr fun f c => cnd_next hD j f c
theorem Beg.whole (hg : Good rs) (hz : 0 ≤ rest 0 ∧ rest 0 ≤ most) (hr : ∀ j, j ≤ L.length → RestOk L rs j (rest j)) (h : Beg L rs most rest L.length (fun _ _ => False) F) (j : Nat) : j ≤ L.length → ∀ f c, F j f = some c ↔ Least (fun c => Pre L rs j f c) c ∧ 0 ≤ rest j ∧ c + rest j ≤ most := by
  induction j using Nat.strongRecOn with
  | _ j ih =>
    intro hj f c
    have hB : ∀ f c, Pre L rs j f c → 0 ≤ rest j → c + rest j ≤ most → ∃ c', c' ≤ c ∧ Cnd L rs most rest F L.length (fun _ _ => False) j f c' := by
      intro f c hp h1 h2
      cases hp with
      | nil => exact ⟨0, Int.le_refl _, .inl ⟨rfl, rfl, rfl⟩⟩
      | @snoc i' r g d hp hr' hf =>
        have hp0 := hg.some_ _ hr'
        have hle := fits_le hf
        obtain ⟨d', hd', hdd⟩ := least_of (P := fun c => Pre L rs i' g c) (fun c hc => (hc.cost hg).1) d.toNat d (Nat.le_refl _) hp
        obtain ⟨⟨q, hq⟩, -⟩ := (hr _ hj).pos h1
        have hre := Re.cons hr' hf hq
        have h3 : 0 ≤ rest i' ∧ rest i' ≤ r.cost + rest (i' + r.from_.length) := by
          rcases hr i' (by omega) with ⟨_, hno⟩ | ⟨⟨p, hp'⟩, hle'⟩
          · exact absurd hre (hno _ _)
          · exact ⟨(hp'.cost hg).1, hle' _ ⟨_, hre⟩⟩
        exact ⟨d' + r.cost, by omega, .inr ⟨i', r, g, d', .inl (by omega), hr', hf, rfl, (ih i' (by omega) (by omega) g d').2 ⟨hd', h3.1, by omega⟩, rfl, rfl, h1, by omega⟩⟩
    rw [h j hj f c]
    constructor
    · rintro ⟨h1, h2⟩
      obtain ⟨h3, h4, h5⟩ := h.sound hg hz j hj f c h1
      refine ⟨⟨h3, fun e he => ?_⟩, h4, h5⟩
      by_cases hle : e ≤ c
      · obtain ⟨c', h6, h7⟩ := hB f e he h4 (by omega)
        have := h2 c' h7
        omega
      · omega
    · rintro ⟨⟨h1, h2⟩, h3, h4⟩
      obtain ⟨c', h5, h6⟩ := hB f c h1 h3 h4
      have h7 := h2 c' (h.sound hg hz j hj f c' h6).1
      have : c' = c := by omega
      subst this
      exact ⟨h6, fun e he => h2 e (h.sound hg hz j hj f e he).1⟩
theorem Beg.ends (hg : Good rs) (hz : 0 ≤ rest 0 ∧ rest 0 ≤ most) (hr : ∀ j, j ≤ L.length → RestOk L rs j (rest j)) (hl : rest L.length = 0) (h0 : 0 < L.length) (h : Beg L rs most rest L.length (fun _ _ => False) F) : EndsOk L rs most 0 (F L.length) := by
  unfold EndsOk
  rw [if_neg (by omega)]
  intro f c
  rw [h.whole hg hz hr L.length (Nat.le_refl _) f c]
  have hz0 : LeastTo L rs 0 0 := ⟨⟨[], Pre.nil⟩, fun d ⟨f, hd⟩ => (hd.cost hg).1⟩
  have e : (fun c => Pre L rs L.length f c) = fun c => Re L rs 0 f c := funext fun c => propext re_iff_pre.symm
  rw [e, hl]
  constructor
  · rintro ⟨h1, -, h2⟩
    exact ⟨0, hz0, h1, by omega⟩
  · rintro ⟨B, hB, h1, h2⟩
    have : B = 0 := hB.uniq hz0
    subst this
    exact ⟨h1, by omega, by omega⟩
theorem nodup_map_snoc (p : List UInt8) : ∀ {fs : List (List UInt8)}, fs.Nodup → (fs.map fun f => f ++ p).Nodup
  | [], _ => List.nodup_nil
  | f :: fs, h => by
    rw [List.nodup_cons] at h
    rw [List.map_cons, List.nodup_cons]
    refine ⟨fun hm => ?_, nodup_map_snoc p h.2⟩
    obtain ⟨g, hg, e⟩ := List.mem_map.1 hm
    rw [List.append_cancel_right e] at hg
    exact h.1 hg
theorem Beg.many (hg : Good rs) (hz : 0 ≤ rest 0 ∧ rest 0 ≤ most) {j : Nat} (hr : RestOk L rs j (rest j)) (h : Beg L rs most rest i D F) (hj : j ≤ L.length) {fs : List (List UInt8)} (hn : fs.Nodup) (hl : 1000 < fs.length) (hf : ∀ f ∈ fs, (F j f).isSome = true) : Many L rs most := by
  have key : ∀ f ∈ fs, ∃ c, Pre L rs j f c ∧ 0 ≤ rest j ∧ c + rest j ≤ most := fun f hm => by
    obtain ⟨c, hc⟩ := Option.isSome_iff_exists.1 (hf f hm)
    exact ⟨c, h.pre hg hz hj hc⟩
  obtain ⟨f0, hm⟩ : ∃ f, f ∈ fs := ⟨fs[0], List.getElem_mem (by omega)⟩
  obtain ⟨c0, -, hp, -⟩ := key f0 hm
  obtain ⟨⟨q, hq⟩, -⟩ := hr.pos hp
  refine ⟨fs.map fun f => f ++ q, nodup_map_snoc q hn, by simpa using hl, fun f hf => ?_⟩
  obtain ⟨g, hg', rfl⟩ := List.mem_map.1 hf
  obtain ⟨c, h1, -, h2⟩ := key g hg'
  exact ⟨c + rest j, h1.join hq, h2⟩
end

end Fo

namespace Go.Proofs.YtdchjacccmajcaaGreatDoor
open Go.RowKit Go.Lib Go.Maps

theorem ownsRow_typed {w w' : World} {B : Nat} {e : TypeId} {sz : Nat} {v : Value} {n : Nat} {xs : List Value} {row : Option Nat} (h : w.ownsRow B e sz v n xs) (hg : w.grownBy w' row) (hr : ∀ r, row = some r → ∀ cs, w.heap[r]? ≠ some (.cells cs e (0, 0))) : w'.ownsRow B e sz v n xs := by
  refine h.kept hg ?_
  cases hb : v.ownBlock with
  | none => exact .inl rfl
  | some g =>
    refine .inr fun e2 => ?_
    obtain ⟨_, cs, h3⟩ := row_blk h hb
    exact hr g e2.symm cs h3
/-- the block of a row holds no other type -/
theorem row_other {w : World} {B : Nat} {e e' : TypeId} {sz : Nat} {v : Value} {n : Nat} {xs : List Value} (h : w.ownsRow B e sz v n xs) (he : e ≠ e') : ∀ r, v.ownBlock = some r → ∀ cs, w.heap[r]? ≠ some (.cells cs e' (0, 0)) := by
  intro r hr cs hc
  obtain ⟨_, cs', h3⟩ := row_blk h hr
  rw [hc] at h3
  injection h3 with h3
  injection h3 with _ h3
  exact he h3.symm

/-- slices, each a row of the call's own -/
structure Rws (w : World) (B : Nat) (vs : List Value) (fs : List (List (List UInt8))) : Prop where
  len : vs.length = fs.length
  own : ∀ (j : Nat) (v : Value) (f : List (List UInt8)), vs[j]? = some v → fs[j]? = some f → w.ownsRow B 9 1 v f.length (f.flatMap strC)

section
variable {w w' : World} {B : Nat} {vs : List Value} {fs : List (List (List UInt8))}
theorem Rws.kept {row : Option Nat} (h : Rws w B vs fs) (hg : w.grownBy w' row) (hr : ∀ r, row = some r → ∀ cs, w.heap[r]? ≠ some (.cells cs 9 (0, 0))) : Rws w' B vs fs := ⟨h.len, fun j v f hv hf => ownsRow_typed (h.own j v f hv hf) hg hr⟩
theorem Rws.below (h : Rws w B vs fs) (hb : Below w.heap.size w w') : Rws w' B vs fs := ⟨h.len, fun j v f hv hf => ownsRow_below (h.own j v f hv hf) hb⟩
theorem Rws.snoc (h : Rws w B vs fs) {v : Value} {f : List (List UInt8)} (hv : w.ownsRow B 9 1 v f.length (f.flatMap strC)) : Rws w B (vs ++ [v]) (fs ++ [f]) := by
  have hl := h.len
  refine ⟨by simp [hl], fun j u g hu hg => ?_⟩
  by_cases hj : j < vs.length
  · rw [List.getElem?_append_left hj] at hu
    rw [List.getElem?_append_left (by rw [← hl]; exact hj)] at hg
    exact h.own j u g hu hg
  · rw [List.getElem?_append_right (by omega)] at hu
    rw [List.getElem?_append_right (by rw [← hl]; omega)] at hg
    rw [← hl] at hg
    have hz : j - vs.length = 0 := by
      cases hq : j - vs.length with
      | zero => rfl
      | succ q => rw [hq] at hu; simp at hu
    rw [hz] at hu hg
    simp at hu hg
    subst hu hg
    exact hv
end

/-- the rules in use, read so far -/
structure UInv (W3 : World) (t : Rw.Table) (k : Int) (j : Nat) (uv fv : Value) (us : List (Rw.Rule × Al.R)) (vs : List Value) (w : World) : Prop where
  u : w.ownsRow W3.heap.size 34 4 uv us.length ((us.map Prod.fst).flatMap ruleCells)
  f : w.ownsRow W3.heap.size 28 1 fv us.length vs
  r : Rws w W3.heap.size vs (us.map fun p => p.2.from_)
  rs : us.map Prod.snd = Al.rulesFrom k 0 (t.rules.take j)
  same : ∀ p ∈ us, p.1.cost = p.2.cost ∧ p.1.to_ = p.2.to_
  below : Below W3.heap.size W3 w

section
variable {W3 w w' : World} {t : Rw.Table} {k : Int} {j : Nat} {uv fv : Value} {us : List (Rw.Rule × Al.R)} {vs : List Value}
theorem UInv.start (W3 : World) (t : Rw.Table) (k : Int) : UInv W3 t k 0 (.slice none 0 0) (.slice none 0 0) [] [] W3 :=
  ⟨World.ownsRow_nil _ _ _ _, World.ownsRow_nil _ _ _ _, ⟨rfl, fun j v f hv => by simp at hv⟩, rfl, fun p hp => (by cases hp), Below.refl _ _⟩
theorem UInv.pass {d : Rw.Rule} (h : UInv W3 t k j uv fv us vs w) (hd : t.rules[j]? = some d) (hk : ¬ d.script = k) (hb : Below w.heap.size w w') : UInv W3 t k (j + 1) uv fv us vs w' :=
  ⟨ownsRow_below h.u hb, ownsRow_below h.f hb, h.r.below hb, by rw [Fo.rules_pass hd hk]; exact h.rs, h.same, Below.step h.below hb⟩
theorem UInv.step {d : Rw.Rule} {f : List (List UInt8)} {X w4 Y w6 : World} {uv' fv' lv : Value} (h : UInv W3 t d.script j uv fv us vs w) (hd : t.rules[j]? = some d) (hf : Sc.lets d.script d.from_ = some f)
    (hX : Below w.heap.size w X) (hg4 : X.grownBy w4 uv.ownBlock) (ho4 : w4.ownsRow W3.heap.size 34 4 uv' (us.length + 1) ((us.map Prod.fst).flatMap ruleCells ++ ruleCells d))
    (hY : Below w4.heap.size w4 Y) (hl : Y.ownsRow W3.heap.size 9 1 lv f.length (f.flatMap strC)) (hg6 : Y.grownBy w6 fv.ownBlock) (ho6 : w6.ownsRow W3.heap.size 28 1 fv' (us.length + 1) (vs ++ [lv])) (hb : Below W3.heap.size W3 w6) :
    UInv W3 t d.script (j + 1) uv' fv' (us ++ [(d, ⟨j, d.cost, f, d.to_⟩)]) (vs ++ [lv]) w6 := by
  have huX := ownsRow_below h.u hX
  have hf4 := ownsRow_typed (ownsRow_below h.f hX) hg4 (row_other huX (by decide))
  have hr4 := (h.r.below hX).kept hg4 (row_other huX (by decide))
  have hfY := ownsRow_below hf4 hY
  refine ⟨?_, by rw [List.length_append]; exact ho6, ?_, ?_, ?_, hb⟩
  · rw [List.length_append, List.map_append, List.flatMap_append]
    have := ownsRow_typed (ownsRow_below ho4 hY) hg6 (row_other hfY (by decide))
    simpa using this
  · rw [List.map_append]
    exact ((hr4.below hY).snoc hl).kept hg6 (row_other hfY (by decide))
  · rw [List.map_append, Fo.rules_step hd hf, h.rs]
    rfl
  · intro p hp
    rcases List.mem_append.1 hp with hp | hp
    · exact h.same p hp
    · rw [List.mem_singleton.1 hp]
      exact ⟨rfl, rfl⟩
end

/-- the rules in use, to be read -/
structure UseAt (uv fv : Value) (us : List (Rw.Rule × Al.R)) (vs : List Value) (w : World) : Prop where
  u : SlOf w uv 4 ruleCells (us.map Prod.fst)
  f : SlOf w fv 1 (fun v => [v]) vs
  len : vs.length = us.length
  r : ∀ (j : Nat) (v : Value) (p : Rw.Rule × Al.R), vs[j]? = some v → us[j]? = some p → SlOf w v 1 strC p.2.from_
section
variable {W3 w w' : World} {t : Rw.Table} {k : Int} {j : Nat} {uv fv : Value} {us : List (Rw.Rule × Al.R)} {vs : List Value}
theorem UInv.len (h : UInv W3 t k j uv fv us vs w) : vs.length = us.length := by have := h.r.len; simpa using this
theorem UInv.use (h : UInv W3 t k j uv fv us vs w) : UseAt uv fv us vs w := by
  have hl := h.len
  refine ⟨SlOf.own (by rw [List.length_map]; exact h.u) (fun _ _ => rfl), SlOf.own (by rw [hl]; simpa using h.f) (fun _ _ => rfl), hl, fun j v p hv hp => SlOf.own (h.r.own j v _ hv (by rw [List.getElem?_map, hp]; rfl)) (fun _ _ => rfl)⟩
theorem UseAt.below (h : UseAt uv fv us vs w) (hb : Below w.heap.size w w') : UseAt uv fv us vs w' := ⟨h.u.below hb, h.f.below hb, h.len, fun j v p hv hp => (h.r j v p hv hp).below hb⟩
/-- one of them -/
theorem UseAt.get {ua fa : Option Addr} {m n uc fc : Nat} (h : UseAt (.slice ua m uc) (.slice fa n fc) us vs w) {p : Rw.Rule × Al.R} (hp : us[j]? = some p) :
    ∃ g o g2 o2 a c, ua = some ⟨g, o, none⟩ ∧ fa = some ⟨g2, o2, none⟩ ∧ RowOf w g o 4 ruleCells (us.map Prod.fst) ∧ g2 < w.heap.size ∧ w.cell? ⟨g2, o2 + j, none⟩ = some (.slice a p.2.from_.length c) ∧ SlOf w (.slice a p.2.from_.length c) 1 strC p.2.from_ := by
  have hj := (List.getElem?_eq_some_iff.1 hp).1
  obtain ⟨a1, c1, e1, -, -, h1⟩ := h.u
  obtain ⟨a2, c2, e2, -, -, h2⟩ := h.f
  cases e1; cases e2
  obtain ⟨g, o, rfl, hr⟩ := h1 (by rw [List.length_map]; omega)
  obtain ⟨g2, o2, rfl, hr2⟩ := h2 (by rw [h.len]; omega)
  obtain ⟨v, hv⟩ : ∃ v, vs[j]? = some v := ⟨_, List.getElem?_eq_getElem (by rw [h.len]; exact hj)⟩
  have hc := hr2.2 j v hv 0 v rfl
  rw [Nat.mul_one, Nat.add_zero] at hc
  have hs := h.r j v p hv hp
  obtain ⟨a, c, rfl, -⟩ := id hs
  exact ⟨g, o, g2, o2, a, c, rfl, rfl, hr, hr2.1, hc, hs⟩
end

/-- the least costs from place p on -/
structure RInv (Wu : World) (L : List (List UInt8)) (rs : List Al.R) (p : Nat) (B : List Int) (w : World) : Prop where
  b : Blk w Wu.heap.size 3 (intV B)
  len : B.length = L.length + 1
  ok : ∀ j c, p ≤ j → B[j]? = some c → Fo.RestOk L rs j c
  last : B[L.length]? = some 0
  below : Below Wu.heap.size Wu w
/-- place i under way -/
structure SInv (Wu : World) (L : List (List UInt8)) (rs : List Al.R) (i : Nat) (B : List Int) (q : Nat) (c : Int) (w : World) : Prop where
  b : Blk w Wu.heap.size 3 (intV (B.set i c))
  h : Fo.RestW L rs i (rs.take q) c
  below : Below Wu.heap.size Wu w
section
variable {Wu w w' : World} {L : List (List UInt8)} {rs : List Al.R} {i p q : Nat} {B : List Int} {c : Int}
theorem RInv.start (hg : Fo.Good rs) (hb : Blk w Wu.heap.size 3 (List.replicate (L.length + 1) (.int .i64 0))) (hw : Below Wu.heap.size Wu w) : RInv Wu L rs L.length (List.replicate (L.length + 1) 0) w := by
  refine ⟨by unfold intV; rw [List.map_replicate]; exact hb, by simp, fun j c hj hc => ?_, by simp, hw⟩
  have hlt := (List.getElem?_eq_some_iff.1 hc).1
  rw [List.length_replicate] at hlt
  obtain rfl : j = L.length := by omega
  rw [List.getElem?_replicate, if_pos (by omega)] at hc
  cases hc
  exact Fo.RestOk.last hg
theorem RInv.begin_ (h : RInv Wu L rs (i + 1) B w) : SInv Wu L rs i B 0 (-1) (w.setCell ⟨Wu.heap.size, i, none⟩ (.int .i64 (-1))) := by
  have := h.b.set i (.int .i64 (-1))
  rw [intV_set] at this
  exact ⟨this, Fo.RestW.start i, h.below.setCell (p := ⟨Wu.heap.size, i, none⟩) (Nat.le_refl _) _⟩
theorem SInv.below' (h : SInv Wu L rs i B q c w) (hb : Below w.heap.size w w') : SInv Wu L rs i B q c w' := ⟨h.b.below hb, h.h, Below.step h.below hb⟩
theorem RInv.below' (h : RInv Wu L rs p B w) (hb : Below w.heap.size w w') : RInv Wu L rs p B w' := ⟨h.b.below hb, h.len, h.ok, h.last, Below.step h.below hb⟩
theorem SInv.skip {r : Al.R} (h : SInv Wu L rs i B q c w) (hr : rs[q]? = some r) (hn : Al.fits L r i = true → ∀ f d, ¬ Fo.Re L rs (i + r.from_.length) f d) (hb : Below w.heap.size w w') : SInv Wu L rs i B (q + 1) c w' :=
  ⟨h.b.below hb, by rw [take_next hr]; exact h.h.skip hn, Below.step h.below hb⟩
theorem SInv.keep {r : Al.R} {d : Int} (h : SInv Wu L rs i B q c w) (hr : rs[q]? = some r) (hf : Al.fits L r i = true) (hl : Fo.LeastFrom L rs (i + r.from_.length) d) (h0 : 0 ≤ r.cost + d) (hc : ¬ (c < 0 ∨ r.cost + d < c)) (hb : Below w.heap.size w w') : SInv Wu L rs i B (q + 1) c w' := by
  refine ⟨h.b.below hb, ?_, Below.step h.below hb⟩
  have := h.h.step hf hl h0
  rw [if_neg hc] at this
  rw [take_next hr]
  exact this
theorem SInv.put {r : Al.R} {d : Int} (h : SInv Wu L rs i B q c w) (hr : rs[q]? = some r) (hf : Al.fits L r i = true) (hl : Fo.LeastFrom L rs (i + r.from_.length) d) (h0 : 0 ≤ r.cost + d) (hc : c < 0 ∨ r.cost + d < c) (hb : Below w.heap.size w w') : SInv Wu L rs i B (q + 1) (r.cost + d) (w'.setCell ⟨Wu.heap.size, i, none⟩ (.int .i64 (r.cost + d))) := by
  have h1 := (h.b.below hb).set i (.int .i64 (r.cost + d))
  rw [intV_set, List.set_set] at h1
  refine ⟨h1, ?_, (Below.step h.below hb).setCell (p := ⟨Wu.heap.size, i, none⟩) (Nat.le_refl _) _⟩
  have := h.h.step hf hl h0
  rw [if_pos hc] at this
  rw [take_next hr]
  exact this
theorem SInv.end_ (h : SInv Wu L rs i B rs.length c w) (h0 : RInv Wu L rs (i + 1) B w') (hi : i < L.length) : RInv Wu L rs i (B.set i c) w := by
  refine ⟨h.b, by rw [List.length_set]; exact h0.len, fun j c' hj hc => ?_, by rw [List.getElem?_set_ne (by omega)]; exact h0.last, h.below⟩
  by_cases hji : j = i
  · subst hji
    rw [List.getElem?_set_self (by rw [h0.len]; omega)] at hc
    cases hc
    have := h.h
    rw [List.take_of_length_le (Nat.le_refl _)] at this
    exact this.done hi
  · rw [List.getElem?_set_ne (by omega)] at hc
    exact h0.ok j c' (by omega) hc
end

/-- the maps made so far: b the block that holds them -/
structure MkI (L : List (List UInt8)) (b : Nat) (ms : List Value) (q : Nat) (w : World) : Prop where
  e : Blk w b 80 ms
  ml : ms.length = L.length + 1
  maps : ∀ j, j < q → ∃ m, ms[j]? = some (.map (some m)) ∧ MapF w Tryz.prog 9 m 0 (numF fun _ => none) ∧ b < m
  apart : ∀ j j' m, j < q → j' < q → ms[j]? = some (.map (some m)) → ms[j']? = some (.map (some m)) → j = j'
/-- the maps of beginnings -/
structure AtI (L : List (List UInt8)) (b : Nat) (ms : List Value) (F : Nat → List UInt8 → Option Int) (w : World) : Prop where
  e : Blk w b 80 ms
  ml : ms.length = L.length + 1
  maps : ∀ j, j ≤ L.length → ∃ m nn, ms[j]? = some (.map (some m)) ∧ MapF w Tryz.prog 9 m nn (numF (F j)) ∧ nn ≤ 40000 ∧ b < m
  apart : ∀ j j' m, j ≤ L.length → j' ≤ L.length → ms[j]? = some (.map (some m)) → ms[j']? = some (.map (some m)) → j = j'
section
variable {w w' : World} {L : List (List UInt8)} {b q : Nat} {ms : List Value} {F : Nat → List UInt8 → Option Int}
theorem MkI.start (hb : Blk w b 80 (List.replicate (L.length + 1) (.map none))) : MkI L b (List.replicate (L.length + 1) (.map none)) 0 w := ⟨hb, by simp, fun j hj => by omega, fun j j' m hj => by omega⟩
theorem MkI.step (h : MkI L b ms q w) (hq : q ≤ L.length) : MkI L b (ms.set q (.map (some w.heap.size))) (q + 1) ((w.alloc (.map #[] 0)).setCell ⟨b, q, none⟩ (.map (some w.heap.size))) := by
  have hb : Below w.heap.size w (w.alloc (.map #[] 0)) := (Below.refl _ w).alloc (Nat.le_refl _) _
  have hlt := h.e.lt
  have hml := h.ml
  have hg := grown_set (w.alloc (.map #[] 0)) b q (.map (some w.heap.size))
  have hold : ∀ j m, j < q → (ms.set q (.map (some w.heap.size)))[j]? = some (.map (some m)) → m < w.heap.size := fun j m hj hm => by
    rw [List.getElem?_set_ne (by omega)] at hm
    obtain ⟨m', e1, e2, -⟩ := h.maps j hj
    rw [e1] at hm
    cases hm
    exact e2.lt
  have hnew : (ms.set q (.map (some w.heap.size)))[q]? = some (.map (some w.heap.size)) := List.getElem?_set_self (by omega)
  refine ⟨(h.e.below hb).set q _, by rw [List.length_set]; exact h.ml, fun j hj => ?_, fun j j' m hj hj' h1 h2 => ?_⟩
  · by_cases hjq : j = q
    · subst hjq
      refine ⟨w.heap.size, hnew, ?_, hlt⟩
      rw [numF_none]
      exact (MapF.made w _ _).kept hg (fun e => by have := Option.some.inj e; omega)
    · obtain ⟨m, e1, e2, e3⟩ := h.maps j (by omega)
      exact ⟨m, by rw [List.getElem?_set_ne (by omega)]; exact e1, (e2.below hb).kept hg (fun e => by have := Option.some.inj e; omega), e3⟩
  · by_cases h3 : j = q
    · by_cases h4 : j' = q
      · omega
      · subst h3
        rw [hnew] at h1
        cases h1
        have := hold j' _ (by omega) h2
        omega
    · by_cases h4 : j' = q
      · subst h4
        rw [hnew] at h2
        cases h2
        have := hold j _ (by omega) h1
        omega
      · rw [List.getElem?_set_ne (by omega)] at h1 h2
        exact h.apart j j' m (by omega) (by omega) h1 h2
theorem MkI.all (h : MkI L b ms (L.length + 1) w) : AtI L b ms (fun _ _ => none) w :=
  ⟨h.e, h.ml, fun j hj => by
    obtain ⟨m, e1, e2, e3⟩ := h.maps j (by omega)
    exact ⟨m, 0, e1, e2, by omega, e3⟩, fun j j' m hj hj' => h.apart j j' m (by omega) (by omega)⟩
theorem AtI.kept {row : Option Nat} (h : AtI L b ms F w) (hg : w.grownBy w' row) (hr : ∀ r, row = some r → w.heap.size ≤ r ∨ (r ≠ b ∧ ∀ j, j ≤ L.length → ms[j]? ≠ some (.map (some r)))) : AtI L b ms F w' := by
  have hlt := h.e.lt
  refine ⟨h.e.kept hg (fun e => ?_), h.ml, fun j hj => ?_, h.apart⟩
  · rcases hr _ e with h1 | ⟨h1, -⟩
    · omega
    · exact h1 rfl
  · obtain ⟨m, nn, e1, e2, e3, e4⟩ := h.maps j hj
    refine ⟨m, nn, e1, e2.kept hg (fun e => ?_), e3, e4⟩
    have hml := e2.lt
    rcases hr _ e.symm with h1 | ⟨-, h1⟩
    · omega
    · exact h1 j hj e1
theorem AtI.below (h : AtI L b ms F w) (hb : Below w.heap.size w w') : AtI L b ms F w' := h.kept (Below.grows hb none) (fun r e => by cases e)
theorem AtI.put {j m nn : Nat} {G : List UInt8 → Option Int} (h : AtI L b ms F w) (hj : j ≤ L.length) (hm : ms[j]? = some (.map (some m))) (hg : w.grownBy w' (some m)) (hM : MapF w' Tryz.prog 9 m nn (numF G)) (hn : nn ≤ 40000) : AtI L b ms (fun i => if i = j then G else F i) w' := by
  obtain ⟨m1, n1, e1, e2, e3, e4⟩ := h.maps j hj
  rw [hm] at e1
  cases e1
  refine ⟨h.e.kept hg (fun e => by have := Option.some.inj e; omega), h.ml, fun i hi => ?_, h.apart⟩
  by_cases hij : i = j
  · subst hij
    exact ⟨m, nn, hm, by rw [if_pos rfl]; exact hM, hn, e4⟩
  · obtain ⟨m2, n2, k1, k2, k3, k4⟩ := h.maps i hi
    have hne : some m2 ≠ some m := fun e => by
      have e' := Option.some.inj e
      subst e'
      exact hij (h.apart i j _ hi hj k1 hm)
    exact ⟨m2, n2, k1, by rw [if_neg hij]; exact k2.kept hg hne, k3, k4⟩
theorem AtI.start (h : AtI L b ms (fun _ _ => none) w) {m nn : Nat} (hm : ms[0]? = some (.map (some m))) (hg : w.grownBy w' (some m)) (hM : MapF w' Tryz.prog 9 m nn (numF (putE (fun _ => none) [] 0))) (hn : nn ≤ 40000) : AtI L b ms Fo.start0 w' := by
  have := h.put (Nat.zero_le _) hm hg hM hn
  exact this
end

end Go.Proofs.YtdchjacccmajcaaGreatDoor
