/-
  Several texts in one: ZScrPure, ZRewPure, ZAlPure, ZAlBest. Conditions: as each law says.
-/

namespace Sc

def small : List UInt8 := [97, 98, 99, 100, 101, 102, 103, 104, 105, 106, 107, 108, 109, 110, 111, 112, 113, 114, 115, 116, 117, 118, 119, 120, 121, 122]
def caps : List UInt8 := [65, 66, 67, 68, 69, 70, 71, 72, 73, 74, 75, 76, 77, 78, 79, 80, 81, 82, 83, 84, 85, 86, 87, 88, 89, 90]
def acc : List UInt8 := [39, 96, 94]
def abj : List UInt8 := [98, 100, 102, 103, 104, 106, 107, 108, 109, 110, 112, 113, 114, 115, 116, 119, 120, 121, 122, 39]
def vow : List UInt8 := [97, 105, 117, 101, 111]
def ons : List UInt8 := [107, 115, 116, 110, 104, 109, 121, 114, 119, 103, 122, 100, 98, 112]

/-- is the byte at an index one of some? -/
def among (s : List UInt8) (i : Nat) (set : List UInt8) : Bool := match s[i]? with | some c => set.contains c | none => false

/-- a byte without capital -/
def low (c : UInt8) : UInt8 := if 65 ≤ c.toNat ∧ c.toNat ≤ 90 then c + 32 else c

/-- the length of the letter at the beginning; 0 if there is none -/
def len (k : Int) (s : List UInt8) : Nat :=
  if k = 1 then (if among s 0 small then 1 else 0)
  else if k = 2 then (if among (s.map low) 0 small then (if among s 1 acc then 2 else 1) else 0)
  else if k = 3 then (if among s 0 abj then 1 else 0)
  else if k = 4 then (if among s 0 ons && among s 1 vow then 2 else if among s 0 vow || among s 0 [110] then 1 else 0)
  else 0

theorem among_lt {s : List UInt8} {i : Nat} {set : List UInt8} (h : among s i set = true) : i < s.length := by
  unfold among at h
  cases hs : s[i]? with
  | none => rw [hs] at h; cases h
  | some c => exact (List.getElem?_eq_some_iff.1 hs).1

theorem among_mem {s : List UInt8} {i : Nat} {set : List UInt8} (h : among s i set = true) : ∃ c, s[i]? = some c ∧ c ∈ set := by
  unfold among at h
  cases hs : s[i]? with
  | none => rw [hs] at h; cases h
  | some c => rw [hs] at h; exact ⟨c, rfl, by simpa using h⟩

theorem len_le (k : Int) (s : List UInt8) : len k s ≤ s.length := by
  unfold len
  split
  · split
    · rename_i h; have := among_lt h; omega
    · omega
  split
  · split
    · rename_i h; have h1 := among_lt h; rw [List.length_map] at h1
      split
      · rename_i h2; have := among_lt h2; omega
      · omega
    · omega
  split
  · split
    · rename_i h; have := among_lt h; omega
    · omega
  split
  · split
    · rename_i h; simp only [Bool.and_eq_true] at h; have := among_lt h.2; omega
    · split
      · rename_i h; simp only [Bool.or_eq_true] at h
        rcases h with h | h
        · have := among_lt h; omega
        · have := among_lt h; omega
      · omega
  · omega

theorem len_two (k : Int) (s : List UInt8) : len k s ≤ 2 := by
  unfold len; repeat' split
  all_goals omega

/-- the letters with which a text begins, and what is left -/
def cut (k : Int) : Nat → List UInt8 → List (List UInt8) × List UInt8
  | 0, s => ([], s)
  | f + 1, s => if len k s = 0 then ([], s) else ((s.take (len k s)) :: (cut k f (s.drop (len k s))).1, (cut k f (s.drop (len k s))).2)

theorem cut_fuel (k : Int) : ∀ (f g : Nat) (s : List UInt8), s.length ≤ f → s.length ≤ g → cut k f s = cut k g s
  | 0, 0, s, _, _ => rfl
  | 0, g + 1, s, hf, _ => by
    have : s = [] := List.length_eq_zero_iff.1 (by omega)
    subst this
    have : len k [] = 0 := by have := len_le k []; simp at this; exact this
    simp [cut, this]
  | f + 1, 0, s, _, hg => by
    have : s = [] := List.length_eq_zero_iff.1 (by omega)
    subst this
    have : len k [] = 0 := by have := len_le k []; simp at this; exact this
    simp [cut, this]
  | f + 1, g + 1, s, hf, hg => by
    unfold cut
    by_cases h : len k s = 0
    · simp [h]
    · have hl := len_le k s
      rw [if_neg h, if_neg h, cut_fuel k f g (s.drop (len k s)) (by simp; omega) (by simp; omega)]

/-- all letters with which a text begins, and the rest -/
def cuts (k : Int) (s : List UInt8) : List (List UInt8) × List UInt8 := cut k s.length s

theorem cuts_stop {k : Int} {s : List UInt8} (h : len k s = 0) : cuts k s = ([], s) := by
  unfold cuts
  cases s with
  | nil => rfl
  | cons c s => simp [cut, h]
theorem cuts_step {k : Int} {s : List UInt8} (h : len k s ≠ 0) : cuts k s = (s.take (len k s) :: (cuts k (s.drop (len k s))).1, (cuts k (s.drop (len k s))).2) := by
  unfold cuts
  have hl := len_le k s
  obtain ⟨n, hn⟩ : ∃ n, s.length = n + 1 := ⟨s.length - 1, by omega⟩
  rw [hn]
  conv => lhs; unfold cut
  rw [if_neg h, cut_fuel k n (s.drop (len k s)).length (s.drop (len k s)) (by simp; omega) (Nat.le_refl _)]

/-- the letters of a word -/
def lets (k : Int) (s : List UInt8) : Option (List (List UInt8)) :=
  if (cuts k s).2 = [] ∧ (cuts k s).1 ≠ [] ∧ (cuts k s).1.length ≤ 12 then some (cuts k s).1 else none

theorem cuts_join (k : Int) : ∀ (n : Nat) (s : List UInt8), s.length ≤ n → (cuts k s).1.flatten ++ (cuts k s).2 = s := by
  intro n
  induction n with
  | zero =>
    intro s h
    have : s = [] := List.length_eq_zero_iff.1 (by omega)
    subst this
    rfl
  | succ n ih =>
    intro s h
    by_cases h0 : len k s = 0
    · rw [cuts_stop h0]; rfl
    · rw [cuts_step h0]
      have := ih (s.drop (len k s)) (by simp; omega)
      simp only [List.flatten_cons, List.append_assoc]
      rw [this, List.take_append_drop]

theorem lets_join {k : Int} {s : List UInt8} {l : List (List UInt8)} (h : lets k s = some l) : l.flatten = s := by
  unfold lets at h
  split at h
  · rename_i hc
    obtain rfl := Option.some.inj h
    have := cuts_join k _ s (Nat.le_refl _)
    rw [hc.1, List.append_nil] at this
    exact this
  · cases h

theorem lets_len {k : Int} {s : List UInt8} {l : List (List UInt8)} (h : lets k s = some l) : l ≠ [] ∧ l.length ≤ 12 := by
  unfold lets at h
  split at h
  · rename_i hc; obtain rfl := Option.some.inj h; exact hc.2
  · cases h

/-! ### ASCII, folding -/

theorem small_lt : ∀ c ∈ small, c.toNat < 128 := by decide
theorem caps_lt : ∀ c ∈ caps, c.toNat < 128 := by decide
theorem acc_lt : ∀ c ∈ acc, c.toNat < 128 := by decide
theorem abj_lt : ∀ c ∈ abj, c.toNat < 128 := by decide
theorem vow_lt : ∀ c ∈ vow, c.toNat < 128 := by decide
theorem ons_lt : ∀ c ∈ ons, c.toNat < 128 := by decide

theorem small_iff (c : UInt8) : c ∈ small ↔ 97 ≤ c.toNat ∧ c.toNat ≤ 122 := by
  constructor
  · intro h; revert c; decide
  · intro h
    have e : c = UInt8.ofNat c.toNat := by simp
    rw [e]
    generalize c.toNat = n at h
    have key : ∀ n, n < 123 → 97 ≤ n → UInt8.ofNat n ∈ small := by decide
    exact key n (by omega) h.1
theorem caps_iff (c : UInt8) : c ∈ caps ↔ 65 ≤ c.toNat ∧ c.toNat ≤ 90 := by
  constructor
  · intro h; revert c; decide
  · intro h
    have e : c = UInt8.ofNat c.toNat := by simp
    rw [e]
    generalize c.toNat = n at h
    have key : ∀ n, n < 91 → 65 ≤ n → UInt8.ofNat n ∈ caps := by decide
    exact key n (by omega) h.1

theorem low_nat (c : UInt8) : (low c).toNat = if 65 ≤ c.toNat ∧ c.toNat ≤ 90 then c.toNat + 32 else c.toNat := by
  unfold low
  split
  · rename_i h; rw [UInt8.toNat_add]; show (c.toNat + 32) % 256 = _; omega
  · rfl

theorem low_small (c : UInt8) : small.contains (low c) = (small.contains c || caps.contains c) := by
  rw [Bool.eq_iff_iff]
  simp only [Bool.or_eq_true, List.contains_iff_mem, small_iff, caps_iff, low_nat]
  split <;> omega

theorem low_lt {c : UInt8} (h : (low c).toNat < 128) : c.toNat < 128 := by
  rw [low_nat] at h; split at h <;> omega

theorem low_low (c : UInt8) : low (low c) = low c := by
  apply UInt8.toNat_inj.1
  rw [low_nat (low c)]
  have := low_nat c
  split
  · rename_i h; rw [this] at h; split at h <;> omega
  · rfl

theorem low_keep {c : UInt8} (h : ¬ (65 ≤ c.toNat ∧ c.toNat ≤ 90)) : low c = c := by unfold low; rw [if_neg h]

theorem among_map {s : List UInt8} {i : Nat} {set : List UInt8} (h : ∀ c : UInt8, set.contains (low c) = set.contains c) : among (s.map low) i set = among s i set := by
  unfold among
  rw [List.getElem?_map]
  cases s[i]? with
  | none => rfl
  | some c => exact h c

theorem among_map2 (s : List UInt8) (i : Nat) : among ((s.map low).map low) i small = among (s.map low) i small := by
  unfold among
  simp only [List.getElem?_map]
  cases s[i]? with
  | none => rfl
  | some c => simp [low_low]

theorem acc_low (c : UInt8) : acc.contains (low c) = acc.contains c := by
  have key : ∀ d ∈ acc, ¬ (97 ≤ d.toNat ∧ d.toNat ≤ 122) ∧ ¬ (65 ≤ d.toNat ∧ d.toNat ≤ 90) := by decide
  rw [Bool.eq_iff_iff]
  simp only [List.contains_iff_mem]
  constructor
  · intro h
    have := key _ h
    rw [low_nat] at this
    by_cases hc : 65 ≤ c.toNat ∧ c.toNat ≤ 90
    · rw [if_pos hc] at this; omega
    · rwa [low_keep hc] at h
  · intro h
    rw [low_keep (key _ h).2]; exact h

/-- bytes of a letter are ASCII -/
theorem len_ascii {k : Int} {s : List UInt8} : ∀ c ∈ s.take (len k s), c.toNat < 128 := by
  intro c hc
  obtain ⟨i, hi⟩ := List.getElem?_of_mem hc
  rw [List.getElem?_take] at hi
  split at hi
  · rename_i hlt
    have h2 := len_two k s
    have h0 : ∀ {set : List UInt8}, among s 0 set = true → (∀ c ∈ set, c.toNat < 128) → i = 0 → c.toNat < 128 := by
      intro set h1 h3 h4
      subst h4
      obtain ⟨d, hd, hm⟩ := among_mem h1
      rw [hi] at hd; obtain rfl := Option.some.inj hd; exact h3 _ hm
    have h1' : ∀ {set : List UInt8}, among s 1 set = true → (∀ c ∈ set, c.toNat < 128) → i = 1 → c.toNat < 128 := by
      intro set h1 h3 h4
      subst h4
      obtain ⟨d, hd, hm⟩ := among_mem h1
      rw [hi] at hd; obtain rfl := Option.some.inj hd; exact h3 _ hm
    have i01 : i = 0 ∨ i = 1 := by omega
    unfold len at hlt
    split at hlt
    · split at hlt
      · rename_i h; exact h0 h small_lt (by omega)
      · omega
    split at hlt
    · split at hlt
      · rename_i h
        rcases i01 with rfl | rfl
        · obtain ⟨d, hd, hm⟩ := among_mem h
          rw [List.getElem?_map, hi] at hd
          obtain rfl := Option.some.inj hd
          exact low_lt (small_lt _ hm)
        · split at hlt
          · rename_i h3; exact h1' h3 acc_lt rfl
          · omega
      · omega
    split at hlt
    · split at hlt
      · rename_i h; exact h0 h abj_lt (by omega)
      · omega
    split at hlt
    · split at hlt
      · rename_i h
        simp only [Bool.and_eq_true] at h
        rcases i01 with rfl | rfl
        · exact h0 h.1 ons_lt rfl
        · exact h1' h.2 vow_lt rfl
      · split at hlt
        · rename_i h
          simp only [Bool.or_eq_true] at h
          rcases h with h | h
          · exact h0 h vow_lt (by omega)
          · exact h0 h (by decide) (by omega)
        · omega
    · omega
  · cases hi

theorem cuts_ascii (k : Int) : ∀ (n : Nat) (s : List UInt8), s.length ≤ n → ∀ l ∈ (cuts k s).1, ∀ c ∈ l, c.toNat < 128 := by
  intro n
  induction n with
  | zero =>
    intro s h l hl
    have : s = [] := List.length_eq_zero_iff.1 (by omega)
    subst this
    cases hl
  | succ n ih =>
    intro s h l hl
    by_cases h0 : len k s = 0
    · rw [cuts_stop h0] at hl; cases hl
    · rw [cuts_step h0] at hl
      simp only [List.mem_cons] at hl
      rcases hl with rfl | hl
      · exact len_ascii
      · exact ih _ (by simp; omega) l hl

theorem lets_ascii {k : Int} {s : List UInt8} {l : List (List UInt8)} (h : lets k s = some l) : ∀ c ∈ s, c.toNat < 128 := by
  have hj := lets_join h
  unfold lets at h
  split at h
  · obtain rfl := Option.some.inj h
    intro c hc
    rw [← hj, List.mem_flatten] at hc
    obtain ⟨l, hl, hcl⟩ := hc
    exact cuts_ascii k _ s (Nat.le_refl _) l hl c hcl
  · cases h

/-- a word without capitals -/
def fold (s : List UInt8) : List UInt8 := s.map low

theorem len_at2 (s : List UInt8) : len 2 s = if among (s.map low) 0 small then (if among s 1 acc then 2 else 1) else 0 := by
  unfold len
  rw [if_neg (by decide), if_pos rfl]

theorem len_fold2 (s : List UInt8) : len 2 (fold s) = len 2 s := by
  unfold fold
  rw [len_at2, len_at2, among_map2, among_map acc_low]

theorem cuts_fold2 : ∀ (n : Nat) (s : List UInt8), s.length ≤ n → cuts 2 (fold s) = ((cuts 2 s).1.map fold, fold (cuts 2 s).2) := by
  intro n
  induction n with
  | zero =>
    intro s h
    have : s = [] := List.length_eq_zero_iff.1 (by omega)
    subst this
    rfl
  | succ n ih =>
    intro s h
    by_cases h0 : len 2 s = 0
    · rw [cuts_stop h0, cuts_stop (by rw [len_fold2]; exact h0)]; rfl
    · rw [cuts_step h0, cuts_step (by rw [len_fold2]; exact h0), len_fold2]
      have e1 : (fold s).drop (len 2 s) = fold (s.drop (len 2 s)) := by simp [fold]
      have e2 : (fold s).take (len 2 s) = fold (s.take (len 2 s)) := by simp [fold]
      rw [e1, e2, ih _ (by simp; omega)]
      rfl

theorem len_nocap {k : Int} {s : List UInt8} (hk : k ≠ 2) : ∀ c ∈ s.take (len k s), ¬ (65 ≤ c.toNat ∧ c.toNat ≤ 90) := by
  intro c hc
  obtain ⟨i, hi⟩ := List.getElem?_of_mem hc
  rw [List.getElem?_take] at hi
  split at hi
  · rename_i hlt
    have h2 := len_two k s
    have h0 : ∀ {set : List UInt8} {j : Nat}, among s j set = true → (∀ c ∈ set, ¬ (65 ≤ c.toNat ∧ c.toNat ≤ 90)) → i = j → ¬ (65 ≤ c.toNat ∧ c.toNat ≤ 90) := by
      intro set j h1 h3 h4
      subst h4
      obtain ⟨d, hd, hm⟩ := among_mem h1
      rw [hi] at hd; obtain rfl := Option.some.inj hd; exact h3 _ hm
    have i01 : i = 0 ∨ i = 1 := by omega
    unfold len at hlt
    by_cases k1 : k = 1
    · rw [if_pos k1] at hlt
      split at hlt
      · rename_i h; exact h0 h (by decide) (by omega)
      · omega
    rw [if_neg k1, if_neg hk] at hlt
    by_cases k3 : k = 3
    · rw [if_pos k3] at hlt
      split at hlt
      · rename_i h; exact h0 h (by decide) (by omega)
      · omega
    rw [if_neg k3] at hlt
    by_cases k4 : k = 4
    · rw [if_pos k4] at hlt
      split at hlt
      · rename_i h
        simp only [Bool.and_eq_true] at h
        rcases i01 with rfl | rfl
        · exact h0 h.1 (by decide) rfl
        · exact h0 h.2 (by decide) rfl
      · split at hlt
        · rename_i h
          simp only [Bool.or_eq_true] at h
          rcases h with h | h
          · exact h0 h (by decide) (by omega)
          · exact h0 h (by decide) (by omega)
        · omega
    · rw [if_neg k4] at hlt; omega
  · cases hi

theorem cuts_nocap {k : Int} (hk : k ≠ 2) : ∀ (n : Nat) (s : List UInt8), s.length ≤ n → ∀ l ∈ (cuts k s).1, ∀ c ∈ l, ¬ (65 ≤ c.toNat ∧ c.toNat ≤ 90) := by
  intro n
  induction n with
  | zero =>
    intro s h l hl
    have : s = [] := List.length_eq_zero_iff.1 (by omega)
    subst this
    cases hl
  | succ n ih =>
    intro s h l hl
    by_cases h0 : len k s = 0
    · rw [cuts_stop h0] at hl; cases hl
    · rw [cuts_step h0] at hl
      simp only [List.mem_cons] at hl
      rcases hl with rfl | hl
      · exact len_nocap hk
      · exact ih _ (by simp; omega) l hl

theorem fold_keep {s : List UInt8} (h : ∀ c ∈ s, ¬ (65 ≤ c.toNat ∧ c.toNat ≤ 90)) : fold s = s := by
  unfold fold
  conv => rhs; rw [← List.map_id s]
  exact List.map_congr_left fun c hc => low_keep (h c hc)

/-- the folded word's letters -/
theorem lets_fold {k : Int} {s : List UInt8} {l : List (List UInt8)} (h : lets k s = some l) : lets k (fold s) = some (l.map fold) := by
  by_cases hk : k = 2
  · subst hk
    unfold lets at h ⊢
    split at h
    · rename_i hc
      obtain rfl := Option.some.inj h
      rw [cuts_fold2 _ s (Nat.le_refl _)]
      rw [if_pos ⟨by rw [hc.1]; rfl, by simpa using hc.2.1, by simpa using hc.2.2⟩]
    · cases h
  · have hj := lets_join h
    have hl : ∀ x ∈ l, ∀ c ∈ x, ¬ (65 ≤ c.toNat ∧ c.toNat ≤ 90) := by
      unfold lets at h
      split at h
      · obtain rfl := Option.some.inj h
        exact cuts_nocap hk _ s (Nat.le_refl _)
      · cases h
    have e1 : fold s = s := fold_keep (by
      intro c hc
      rw [← hj, List.mem_flatten] at hc
      obtain ⟨x, hx, hcx⟩ := hc
      exact hl x hx c hcx)
    have e2 : l.map fold = l := by
      conv => rhs; rw [← List.map_id l]
      exact List.map_congr_left fun x hx => fold_keep (hl x hx)
    rw [e1, e2]; exact h

theorem fold_fold (s : List UInt8) : fold (fold s) = fold s := by
  unfold fold; rw [List.map_map]; exact List.map_congr_left fun c _ => low_low c

theorem fold_length (s : List UInt8) : (fold s).length = s.length := by simp [fold]

end Sc

namespace Rw

structure Rule where
  script : Int
  from_ : List UInt8
  to_ : List UInt8
  cost : Int
deriving DecidableEq

structure Drop where
  script : Int
  word : List UInt8
  cost : Int
deriving DecidableEq

structure Table where
  rules : List Rule
  drops : List Drop
  ends : List Drop
  drop : Int
  order : Int
  initial : Int

def isForm (s : List UInt8) : Bool := decide (s.length ≤ 3) && s.all Sc.small.contains
def isCost (n : Int) : Bool := decide (0 ≤ n) && decide (n ≤ 1000)
def folded (k : Int) (s : List UInt8) (most : Int) : Bool :=
  match Sc.lets k s with
  | none => false
  | some ls => decide (Sc.fold s = s) && decide ((ls.length : Int) ≤ most)

/-- what no two may have in common -/
def Rule.key (r : Rule) : Int × List UInt8 × List UInt8 := (r.script, r.from_, r.to_)
def Drop.key (d : Drop) : Int × List UInt8 × List UInt8 := (d.script, d.word, [])

def ruleOk (r : Rule) : Bool := folded r.script r.from_ 3 && isForm r.to_ && isCost r.cost
def dropOk (most : Int) (d : Drop) : Bool := folded d.script d.word most && isCost d.cost

/-- each is well and none has an earlier one's key -/
def allOk {α : Type} (ok : α → Bool) (key : α → Int × List UInt8 × List UInt8) : List α → List (Int × List UInt8 × List UInt8) → Bool
  | [], _ => true
  | x :: l, seen => !seen.contains (key x) && ok x && allOk ok key l (seen ++ [key x])

def dropsOk (l : List Drop) (most : Int) : Bool := allOk (dropOk most) Drop.key l [] && decide (l.length ≤ 40)

def valid (t : Table) : Bool :=
  decide (t.rules ≠ []) && decide (t.rules.length ≤ 80) && isCost t.drop && isCost t.order && isCost t.initial && allOk ruleOk Rule.key t.rules [] && dropsOk t.drops 12 && dropsOk t.ends 4

/-- the first k are well -/
theorem allOk_append {α : Type} (ok : α → Bool) (key : α → Int × List UInt8 × List UInt8) : ∀ (a b : List α) (seen : List (Int × List UInt8 × List UInt8)), allOk ok key (a ++ b) seen = (allOk ok key a seen && allOk ok key b (seen ++ a.map key))
  | [], b, seen => by simp [allOk]
  | x :: a, b, seen => by
    simp only [List.cons_append, allOk, List.map_cons]
    rw [allOk_append ok key a b]
    simp [Bool.and_assoc]

end Rw

namespace Al

def endless : Int := 1099511627776

structure R where
  index : Nat
  cost : Int
  from_ : List (List UInt8)
  to_ : List UInt8
deriving DecidableEq

structure Side where
  letters : List (List UInt8)
  rules : List R

def rulesFrom (k : Int) : Nat → List Rw.Rule → List R
  | _, [] => []
  | i, r :: l =>
    if r.script = k then
      match Sc.lets k r.from_ with
      | some f => ⟨i, r.cost, f, r.to_⟩ :: rulesFrom k (i + 1) l
      | none => rulesFrom k (i + 1) l
    else rulesFrom k (i + 1) l

def side (t : List Rw.Rule) (k : Int) (word : List UInt8) : Option Side :=
  match Sc.lets k word with
  | none => none
  | some _ =>
    match Sc.lets k (Sc.fold word) with
    | none => none
    | some l => some ⟨l, rulesFrom k 0 t⟩

def fits (letters : List (List UInt8)) (r : R) (at_ : Nat) : Bool :=
  decide (at_ + r.from_.length ≤ letters.length) && decide ((letters.drop at_).take r.from_.length = r.from_)

structure St where
  i : Nat
  j : Nat
  ahead : List UInt8
  right : Bool
deriving DecidableEq

structure Ws where
  left : Side
  right : Side

def zero : St := ⟨0, 0, [], false⟩

def done (w : Ws) (s : St) : Bool := decide (s.i = w.left.letters.length) && decide (s.j = w.right.letters.length) && s.ahead.isEmpty
def byLeft (w : Ws) (s : St) : Bool := s.right || (s.ahead.isEmpty && decide (s.i < w.left.letters.length))

def nextOf (left : Bool) (s : St) (r : R) : Option St :=
  let i := if left then s.i + r.from_.length else s.i
  let j := if left then s.j else s.j + r.from_.length
  if r.to_.isPrefixOf s.ahead then some ⟨i, j, s.ahead.drop r.to_.length, s.right && !(s.ahead.drop r.to_.length).isEmpty⟩
  else if s.ahead.isPrefixOf r.to_ then some ⟨i, j, r.to_.drop s.ahead.length, !left⟩
  else none

def one (w : Ws) (s : St) : Side := if byLeft w s then w.left else w.right
def at_ (w : Ws) (s : St) : Nat := if byLeft w s then s.i else s.j

def move (w : Ws) (s : St) (r : R) : Option (R × St) :=
  if fits (one w s).letters r (at_ w s) then (nextOf (byLeft w s) s r).map (fun n => (r, n)) else none
def moves (w : Ws) (s : St) : List (R × St) := (one w s).rules.filterMap (move w s)

def costF (w : Ws) : Nat → St → Int
  | 0, _ => endless
  | n + 1, s => (moves w s).foldl (fun h p => min h (p.1.cost + costF w n p.2)) (if done w s then 0 else endless)

def meas (w : Ws) (s : St) : Nat := (w.left.letters.length - s.i) + (w.right.letters.length - s.j)
def cost (w : Ws) (s : St) : Int := costF w (meas w s + 1) s

/-- the rules rewrite letters, and cost something -/
structure Side.Good (S : Side) : Prop where
  some_ : ∀ r ∈ S.rules, r.from_ ≠ []
  cost : ∀ r ∈ S.rules, 0 ≤ r.cost ∧ r.cost ≤ 1000
  index : S.rules.Pairwise (fun a b => a.index < b.index)

structure Ws.Good (w : Ws) : Prop where
  left : w.left.Good
  right : w.right.Good

variable {w : Ws} {s s' : St} {r : R}

theorem Ws.Good.one (h : w.Good) (s : St) : (Al.one w s).Good := by
  unfold Al.one; split
  · exact h.left
  · exact h.right

theorem mem_moves : (r, s') ∈ moves w s ↔ r ∈ (one w s).rules ∧ fits (one w s).letters r (at_ w s) = true ∧ nextOf (byLeft w s) s r = some s' := by
  unfold moves
  rw [List.mem_filterMap]
  constructor
  · rintro ⟨q, hq, h⟩
    unfold move at h
    split at h
    · rename_i hf
      cases hn : nextOf (byLeft w s) s q with
      | none => rw [hn] at h; cases h
      | some n => rw [hn] at h; cases h; exact ⟨hq, hf, hn⟩
    · cases h
  · rintro ⟨h1, h2, h3⟩
    exact ⟨r, h1, by unfold move; rw [if_pos h2, h3]; rfl⟩

theorem nextOf_ij {l : Bool} (h : nextOf l s r = some s') : s'.i = (if l then s.i + r.from_.length else s.i) ∧ s'.j = (if l then s.j else s.j + r.from_.length) := by
  unfold nextOf at h
  simp only at h
  split at h
  · cases h; exact ⟨rfl, rfl⟩
  · split at h
    · cases h; exact ⟨rfl, rfl⟩
    · cases h

theorem fits_le {l : List (List UInt8)} {k : Nat} (h : fits l r k = true) : k + r.from_.length ≤ l.length := by
  unfold fits at h
  rw [Bool.and_eq_true, decide_eq_true_eq] at h
  exact h.1

/-- a place within both words -/
def Within (w : Ws) (s : St) : Prop := s.i ≤ w.left.letters.length ∧ s.j ≤ w.right.letters.length ∧ (s.right = true → s.ahead ≠ [])

theorem within_zero : Within w zero := ⟨Nat.zero_le _, Nat.zero_le _, by simp [zero]⟩

theorem move_step (hw : w.Good) (h : (r, s') ∈ moves w s) (hs : Within w s) : Within w s' ∧ meas w s' < meas w s ∧ (s.i < s'.i ↔ byLeft w s = true) := by
  obtain ⟨h1, h2, h3⟩ := mem_moves.1 h
  have hn := (hw.one s).some_ r h1
  have hn' : 0 < r.from_.length := List.length_pos_iff.2 hn
  have hle := fits_le h2
  obtain ⟨a, b⟩ := nextOf_ij h3
  obtain ⟨u1, u2, u3⟩ := hs
  have hr : s'.right = true → s'.ahead ≠ [] := by
    unfold nextOf at h3
    simp only at h3
    split at h3
    · cases h3; simp
    · split at h3
      · rename_i hp hq
        cases h3
        intro _ he
        simp only [List.drop_eq_nil_iff] at he
        rw [List.isPrefixOf_iff_prefix] at hq
        have := hq.eq_of_length_le he
        rw [← this] at hp
        simp at hp
      · cases h3
  unfold Within meas
  unfold one at_ at hle
  cases hb : byLeft w s with
  | true =>
    rw [hb] at a b hle
    simp only [if_pos] at a b hle
    refine ⟨⟨by omega, by omega, hr⟩, by omega, by simp; omega⟩
  | false =>
    rw [hb] at a b hle
    simp only [Bool.false_eq_true, if_false] at a b hle
    refine ⟨⟨by omega, by omega, hr⟩, by omega, by simp; omega⟩

theorem foldl_congr_mem {α β : Type} {f g : β → α → β} : ∀ {l : List α} {b : β}, (∀ b, ∀ a ∈ l, f b a = g b a) → l.foldl f b = l.foldl g b
  | [], _, _ => rfl
  | x :: l, b, h => by
    rw [List.foldl_cons, List.foldl_cons, h b x List.mem_cons_self]
    exact foldl_congr_mem (fun b a ha => h b a (List.mem_cons_of_mem _ ha))

theorem costF_stable (hw : w.Good) : ∀ (n m : Nat) (s : St), Within w s → meas w s < n → meas w s < m → costF w n s = costF w m s
  | 0, _, _, _, h, _ => by omega
  | _, 0, _, _, _, h => by omega
  | n + 1, m + 1, s, hs, h1, h2 => by
    unfold costF
    refine foldl_congr_mem (fun b p hp => ?_)
    obtain ⟨r, s'⟩ := p
    obtain ⟨a, b', _⟩ := move_step hw hp hs
    rw [costF_stable hw n m s' a (by omega) (by omega)]

/-- the least cost over the moves so far -/
def least (w : Ws) (l : List (R × St)) (h : Int) : Int := l.foldl (fun h p => min h (p.1.cost + cost w p.2)) h
def start (w : Ws) (s : St) : Int := if done w s then 0 else endless

theorem cost_eq (hw : w.Good) (hs : Within w s) : cost w s = least w (moves w s) (start w s) := by
  unfold cost least start
  rw [costF]
  refine foldl_congr_mem (fun b p hp => ?_)
  obtain ⟨r, s'⟩ := p
  obtain ⟨a, b', _⟩ := move_step hw hp hs
  show min b (r.cost + costF w (meas w s) s') = min b (r.cost + costF w (meas w s' + 1) s')
  rw [costF_stable hw _ _ s' a b' (Nat.lt_succ_self _)]

theorem least_le : ∀ (l : List (R × St)) (h : Int), least w l h ≤ h
  | [], _ => Int.le_refl _
  | p :: l, h => by
    unfold least
    rw [List.foldl_cons]
    exact Int.le_trans (least_le l _) (Int.min_le_left _ _)

theorem least_mem : ∀ (l : List (R × St)) (h : Int), (r, s') ∈ l → least w l h ≤ r.cost + cost w s'
  | p :: l, h, hm => by
    unfold least
    rw [List.foldl_cons]
    rcases List.mem_cons.1 hm with rfl | hm
    · exact Int.le_trans (least_le l _) (Int.min_le_right _ _)
    · exact least_mem l _ hm

theorem least_is : ∀ (l : List (R × St)) (h : Int), least w l h = h ∨ ∃ p ∈ l, least w l h = p.1.cost + cost w p.2
  | [], _ => .inl rfl
  | p :: l, h => by
    have e : least w (p :: l) h = least w l (min h (p.1.cost + cost w p.2)) := by unfold least; rw [List.foldl_cons]
    rw [e]
    rcases least_is l (min h (p.1.cost + cost w p.2)) with h1 | ⟨q, hq, h1⟩
    · rw [h1]
      rcases Int.le_total h (p.1.cost + cost w p.2) with h2 | h2
      · exact .inl (Int.min_eq_left h2)
      · exact .inr ⟨p, List.mem_cons_self, Int.min_eq_right h2⟩
    · exact .inr ⟨q, List.mem_cons_of_mem _ hq, h1⟩

theorem cost_le (hw : w.Good) (hs : Within w s) : cost w s ≤ endless := by
  rw [cost_eq hw hs]
  refine Int.le_trans (least_le _ _) ?_
  unfold start endless
  split <;> omega

theorem cost_nonneg (hw : w.Good) : ∀ (n : Nat) (s : St), meas w s ≤ n → Within w s → 0 ≤ cost w s := by
  intro n
  induction n with
  | zero =>
    intro s hn hs
    rw [cost_eq hw hs]
    rcases least_is (w := w) (moves w s) (start w s) with h | ⟨⟨r, s'⟩, hp, h⟩
    · rw [h]; unfold start endless; split <;> omega
    · obtain ⟨_, b, _⟩ := move_step hw hp hs; omega
  | succ n ih =>
    intro s hn hs
    rw [cost_eq hw hs]
    rcases least_is (w := w) (moves w s) (start w s) with h | ⟨⟨r, s'⟩, hp, h⟩
    · rw [h]; unfold start endless; split <;> omega
    · obtain ⟨a, b, _⟩ := move_step hw hp hs
      have := ih s' (by omega) a
      have := ((hw.one s).cost r (mem_moves.1 hp).1).1
      rw [h]; simp only; omega

/-! ## Lists of rules that rewrite a word -/

def written (S : Side) : Nat → List Int → Option (List UInt8 × Int)
  | k, [] => if k = S.letters.length then some ([], 0) else none
  | k, i :: l =>
    match S.rules.find? (fun r => (r.index : Int) == i) with
    | none => none
    | some r => if fits S.letters r k then (written S (k + r.from_.length) l).map (fun p => (r.to_ ++ p.1, r.cost + p.2)) else none

theorem written_cons {S : Side} {k : Nat} {i : Int} {l : List Int} {f : List UInt8} {c : Int} (h : written S k (i :: l) = some (f, c)) :
    ∃ r f' c', S.rules.find? (fun r => (r.index : Int) == i) = some r ∧ r ∈ S.rules ∧ fits S.letters r k = true ∧ written S (k + r.from_.length) l = some (f', c') ∧ f = r.to_ ++ f' ∧ c = r.cost + c' := by
  unfold written at h
  split at h
  · cases h
  · rename_i r hr
    split at h
    · rename_i hf
      cases hw : written S (k + r.from_.length) l with
      | none => rw [hw] at h; cases h
      | some p => rw [hw] at h; cases h; exact ⟨r, p.1, p.2, hr, List.mem_of_find?_eq_some hr, hf, hw, rfl, rfl⟩
    · cases h

theorem written_nil {S : Side} {k : Nat} {f : List UInt8} {c : Int} (h : written S k [] = some (f, c)) : k = S.letters.length ∧ f = [] ∧ c = 0 := by
  unfold written at h
  split at h
  · rename_i hk; cases h; exact ⟨hk, rfl, rfl⟩
  · cases h

/-- what the rest of both forms has in common -/
def Rel (s : St) (f g : List UInt8) : Prop := if s.right then f = s.ahead ++ g else g = s.ahead ++ f

/-- EVERY PAIR OF DERIVATIONS OF ONE FORM COSTS AT LEAST THIS -/
theorem complete (hw : w.Good) : ∀ (n : Nat) (s : St) (dl dr : List Int) (f g : List UInt8) (m k : Int), dl.length + dr.length ≤ n → Within w s → written w.left s.i dl = some (f, m) → written w.right s.j dr = some (g, k) → Rel s f g → cost w s ≤ m + k := by
  intro n
  induction n with
  | zero =>
    intro s dl dr f g m k hn hs hl hr hrel
    obtain rfl : dl = [] := List.length_eq_zero_iff.1 (by omega)
    obtain rfl : dr = [] := List.length_eq_zero_iff.1 (by omega)
    obtain ⟨e1, rfl, rfl⟩ := written_nil hl
    obtain ⟨e2, rfl, rfl⟩ := written_nil hr
    have ha : s.ahead = [] := by
      unfold Rel at hrel
      split at hrel <;> simpa using hrel.symm
    rw [cost_eq hw hs]
    refine Int.le_trans (least_le _ _) ?_
    unfold start done
    rw [ha, decide_eq_true e1, decide_eq_true e2]; simp
  | succ n ih =>
    intro s dl dr f g m k hn hs hl hr hrel
    cases hb : byLeft w s with
    | true =>
      have hone : one w s = w.left := by unfold one; rw [hb]; rfl
      have hat : at_ w s = s.i := by unfold at_; rw [hb]; rfl
      cases dl with
      | nil =>
        exfalso
        obtain ⟨e1, rfl, rfl⟩ := written_nil hl
        unfold byLeft at hb
        unfold Rel at hrel
        cases hsr : s.right with
        | true =>
          rw [hsr] at hrel
          simp only [if_pos] at hrel
          have := hs.2.2 hsr
          exact this (List.append_eq_nil_iff.1 hrel.symm).1
        | false =>
          rw [hsr] at hb
          simp at hb
          omega
      | cons i dl =>
        obtain ⟨r, f', c', hfi, hmem, hfit, hl', rfl, rfl⟩ := written_cons hl
        have key : ∃ s', nextOf true s r = some s' ∧ Rel s' f' g := by
          unfold Rel at hrel
          unfold nextOf
          simp only [if_pos]
          cases hp : r.to_.isPrefixOf s.ahead with
          | true =>
            rw [if_pos rfl]
            refine ⟨_, rfl, ?_⟩
            obtain ⟨q, hq⟩ := List.isPrefixOf_iff_prefix.1 hp
            unfold Rel
            simp only
            rw [← hq, List.drop_left]
            cases hsr : s.right with
            | true =>
              rw [hsr] at hrel
              simp only [if_pos] at hrel
              rw [← hq, List.append_assoc, List.append_cancel_left_eq] at hrel
              cases q with
              | nil => simp at hrel ⊢; exact hrel.symm
              | cons x q => simpa using hrel
            | false =>
              rw [hsr] at hrel
              simp only [Bool.false_eq_true, if_false] at hrel
              unfold byLeft at hb
              rw [hsr] at hb
              simp at hb
              have h1 := hq.trans hb.1
              simp at h1
              rw [h1.2]
              rw [hb.1, h1.1] at hrel
              simpa using hrel
          | false =>
            rw [if_neg (by simp)]
            have hpre : s.ahead <+: r.to_ := by
              cases hsr : s.right with
              | true =>
                rw [hsr] at hrel
                simp only [if_pos] at hrel
                rcases List.prefix_or_prefix_of_prefix (show s.ahead <+: r.to_ ++ f' from ⟨g, hrel.symm⟩) (List.prefix_append _ _) with h | h
                · exact h
                · rw [List.isPrefixOf_iff_prefix.2 h] at hp; cases hp
              | false =>
                unfold byLeft at hb
                rw [hsr] at hb
                simp at hb
                rw [hb.1]; exact List.nil_prefix
            rw [if_pos (List.isPrefixOf_iff_prefix.2 hpre)]
            refine ⟨_, rfl, ?_⟩
            obtain ⟨q, hq⟩ := hpre
            unfold Rel
            simp only [Bool.not_true, Bool.false_eq_true, if_false]
            rw [← hq, List.drop_left]
            cases hsr : s.right with
            | true =>
              rw [hsr] at hrel
              simp only [if_pos] at hrel
              rw [← hq, List.append_assoc, List.append_cancel_left_eq] at hrel
              exact hrel.symm
            | false =>
              rw [hsr] at hrel
              simp only [Bool.false_eq_true, if_false] at hrel
              unfold byLeft at hb
              rw [hsr] at hb
              simp at hb
              rw [hb.1] at hrel hq
              rw [hrel, ← hq]; simp
        obtain ⟨s', hn', hrel'⟩ := key
        have hm : (r, s') ∈ moves w s := mem_moves.2 ⟨by rw [hone]; exact hmem, by rw [hone, hat]; exact hfit, by rw [hb]; exact hn'⟩
        obtain ⟨hs', _, _⟩ := move_step hw hm hs
        obtain ⟨ei, ej⟩ := nextOf_ij hn'
        simp only [if_pos] at ei ej
        have := ih s' dl dr f' g c' k (by simp at hn; omega) hs' (by rw [ei]; exact hl') (by rw [ej]; exact hr) hrel'
        rw [cost_eq hw hs]
        have := least_mem (w := w) (moves w s) (start w s) hm
        omega
    | false =>
      have hone : one w s = w.right := by unfold one; rw [hb]; rfl
      have hat : at_ w s = s.j := by unfold at_; rw [hb]; rfl
      unfold byLeft at hb
      rw [Bool.or_eq_false_iff] at hb
      obtain ⟨hsr, hb2⟩ := hb
      have hrel0 := hrel
      unfold Rel at hrel
      rw [hsr] at hrel
      simp only [Bool.false_eq_true, if_false] at hrel
      cases dr with
      | nil =>
        obtain ⟨e2, rfl, rfl⟩ := written_nil hr
        have ha := (List.append_eq_nil_iff.1 hrel.symm).1
        rw [ha] at hb2
        simp at hb2
        cases dl with
        | nil =>
          exact ih s [] [] f [] m 0 (by simp) hs hl hr hrel0
        | cons i dl =>
          exfalso
          obtain ⟨r, f', c', hfi, hmem, hfit, hl', _, _⟩ := written_cons hl
          have := fits_le hfit
          have := List.length_pos_iff.2 (hw.left.some_ r hmem)
          omega
      | cons i dr =>
        obtain ⟨r, g', c', hfi, hmem, hfit, hr', rfl, rfl⟩ := written_cons hr
        have key : ∃ s', nextOf false s r = some s' ∧ Rel s' f g' := by
          unfold nextOf
          simp only [Bool.false_eq_true, if_false]
          cases hp : r.to_.isPrefixOf s.ahead with
          | true =>
            rw [if_pos rfl]
            refine ⟨_, rfl, ?_⟩
            obtain ⟨q, hq⟩ := List.isPrefixOf_iff_prefix.1 hp
            unfold Rel
            simp only [hsr, Bool.false_and, Bool.false_eq_true, if_false]
            rw [← hq, List.drop_left]
            rw [← hq, List.append_assoc, List.append_cancel_left_eq] at hrel
            exact hrel
          | false =>
            rw [if_neg (by simp)]
            have hpre : s.ahead <+: r.to_ := by
              rcases List.prefix_or_prefix_of_prefix (show s.ahead <+: r.to_ ++ g' from ⟨f, hrel.symm⟩) (List.prefix_append _ _) with h | h
              · exact h
              · rw [List.isPrefixOf_iff_prefix.2 h] at hp; cases hp
            rw [if_pos (List.isPrefixOf_iff_prefix.2 hpre)]
            refine ⟨_, rfl, ?_⟩
            obtain ⟨q, hq⟩ := hpre
            unfold Rel
            simp only [Bool.not_false, if_pos]
            rw [← hq, List.drop_left]
            rw [← hq, List.append_assoc, List.append_cancel_left_eq] at hrel
            exact hrel.symm
        obtain ⟨s', hn', hrel'⟩ := key
        have hb : byLeft w s = false := by unfold byLeft; rw [hsr, hb2]; rfl
        have hm : (r, s') ∈ moves w s := mem_moves.2 ⟨by rw [hone]; exact hmem, by rw [hone, hat]; exact hfit, by rw [hb]; exact hn'⟩
        obtain ⟨hs', _, _⟩ := move_step hw hm hs
        obtain ⟨ei, ej⟩ := nextOf_ij hn'
        simp only [Bool.false_eq_true, if_false] at ei ej
        have := ih s' dl dr f g' m c' (by simp at hn ⊢; omega) hs' (by rw [ei]; exact hl) (by rw [ej]; exact hr') hrel'
        rw [cost_eq hw hs]
        have := least_mem (w := w) (moves w s) (start w s) hm
        omega

end Al

namespace Al

variable {w : Ws} {s s' : St} {r : R}

/-- the first move on a cheapest way -/
def pick (w : Ws) (s : St) : Option (R × St) := (moves w s).find? (fun p => p.1.cost + cost w p.2 == cost w s)

/-- the cheapest way: by the left side? and the rule -/
def path (w : Ws) : Nat → St → List (Bool × R)
  | 0, _ => []
  | n + 1, s =>
    if done w s then []
    else match pick w s with
      | none => []
      | some (r, s') => (decide (s.i < s'.i), r) :: path w n s'

def lefts (l : List (Bool × R)) : List R := (l.filter (fun p => p.1)).map (fun p => p.2)
def rights (l : List (Bool × R)) : List R := (l.filter (fun p => !p.1)).map (fun p => p.2)
def ints (l : List R) : List Int := l.map (fun r => (r.index : Int))
def form (l : List R) : List UInt8 := l.flatMap R.to_

theorem find_index {S : Side} (hS : S.Good) (hr : r ∈ S.rules) : S.rules.find? (fun q => (q.index : Int) == (r.index : Int)) = some r := by
  have key : ∀ (l : List R), l.Pairwise (fun a b => a.index < b.index) → r ∈ l → l.find? (fun q => (q.index : Int) == (r.index : Int)) = some r := by
    intro l
    induction l with
    | nil => intro _ h; simp at h
    | cons x l ih =>
      intro hp hm
      rw [List.pairwise_cons] at hp
      rcases List.mem_cons.1 hm with rfl | hm
      · simp
      · have := hp.1 r hm
        rw [List.find?_cons_of_neg (by simp; omega)]
        exact ih hp.2 hm
  exact key _ hS.index hr

theorem pick_some (hw : w.Good) (hs : Within w s) (hc : cost w s < endless) (hd : done w s = false) : ∃ p, pick w s = some p ∧ p ∈ moves w s ∧ p.1.cost + cost w p.2 = cost w s := by
  have h := cost_eq hw hs
  rcases least_is (w := w) (moves w s) (start w s) with h1 | ⟨p, hp, h1⟩
  · exfalso
    rw [h1] at h
    unfold start at h
    rw [hd] at h
    simp at h
    omega
  · cases hf : pick w s with
    | none =>
      unfold pick at hf
      rw [List.find?_eq_none] at hf
      exact absurd (by rw [h, h1]; simp) (hf p hp)
    | some q =>
      refine ⟨q, rfl, List.mem_of_find?_eq_some hf, ?_⟩
      simpa using List.find?_some hf

/-- WHAT BEST RETURNS IS RIGHT -/
theorem sound (hw : w.Good) : ∀ (n : Nat) (s : St), meas w s < n → Within w s → cost w s < endless →
    ∃ m k, written w.left s.i (ints (lefts (path w n s))) = some (form (lefts (path w n s)), m) ∧ written w.right s.j (ints (rights (path w n s))) = some (form (rights (path w n s)), k) ∧
      m + k = cost w s ∧ Rel s (form (lefts (path w n s))) (form (rights (path w n s))) := by
  intro n
  induction n with
  | zero => intro s h; omega
  | succ n ih =>
    intro s hn hs hc
    cases hd : done w s with
    | true =>
      have hd' := hd
      unfold done at hd'
      rw [Bool.and_eq_true, Bool.and_eq_true, decide_eq_true_eq, decide_eq_true_eq, List.isEmpty_iff] at hd'
      obtain ⟨⟨e1, e2⟩, e3⟩ := hd'
      have hp : path w (n + 1) s = [] := by unfold path; rw [hd]; rfl
      rw [hp]
      refine ⟨0, 0, ?_, ?_, ?_, ?_⟩
      · unfold written ints lefts; simp [form, e1]
      · unfold written ints rights; simp [form, e2]
      · have h0 := cost_nonneg hw (meas w s) s (Nat.le_refl _) hs
        have h1 := cost_eq hw hs
        have h2 := least_le (w := w) (moves w s) (start w s)
        unfold start at h2
        rw [hd] at h2
        simp only [if_pos] at h2
        unfold start at h1
        rw [hd] at h1
        simp only [if_pos] at h1
        omega
      · unfold Rel
        rw [e3]
        simp [form, lefts, rights]
    | false =>
      obtain ⟨⟨r, s'⟩, hpk, hm, hcs⟩ := pick_some hw hs hc hd
      obtain ⟨hs', hme, hlt⟩ := move_step hw hm hs
      obtain ⟨hmem, hfit, hnx⟩ := mem_moves.1 hm
      have hrc := (hw.one s).cost r hmem
      obtain ⟨m, k, i1, i2, i3, i4⟩ := ih s' (by omega) hs' (by simp only at hcs; omega)
      have hp : path w (n + 1) s = (decide (s.i < s'.i), r) :: path w n s' := by
        rw [path, hd, hpk]; simp
      generalize path w n s' = l at *
      obtain ⟨ei, ej⟩ := nextOf_ij hnx
      rw [hp]
      cases hb : byLeft w s with
      | true =>
        have hone : one w s = w.left := by unfold one; rw [hb]; rfl
        have hat : at_ w s = s.i := by unfold at_; rw [hb]; rfl
        rw [hone] at hmem hfit
        rw [hat] at hfit
        rw [hb] at ei ej hnx
        simp only [if_pos] at ei ej
        have hd1 : decide (s.i < s'.i) = true := decide_eq_true (hlt.2 hb)
        rw [hd1]
        have el : lefts ((true, r) :: l) = r :: lefts l := by simp [lefts]
        have er : rights ((true, r) :: l) = rights l := by simp [rights]
        rw [el, er]
        refine ⟨r.cost + m, k, ?_, ?_, ?_, ?_⟩
        · show written w.left s.i ((r.index : Int) :: ints (lefts l)) = _
          unfold written
          rw [find_index hw.left hmem]
          simp only
          rw [if_pos hfit, ← ei, i1]
          rfl
        · rw [← ej]; exact i2
        · simp only at hcs; omega
        · show Rel s (r.to_ ++ form (lefts l)) (form (rights l))
          generalize form (lefts l) = f at *
          generalize form (rights l) = g at *
          unfold nextOf at hnx
          simp only [if_pos] at hnx
          unfold Rel at i4 ⊢
          split at hnx
          · rename_i hpre
            obtain ⟨q, hq⟩ := List.isPrefixOf_iff_prefix.1 hpre
            cases hnx
            simp only at i4
            rw [← hq, List.drop_left] at i4
            cases hsr : s.right with
            | true =>
              rw [hsr] at i4
              simp only [if_pos]
              rw [← hq]
              cases q with
              | nil => simp at i4 ⊢; exact i4.symm
              | cons x q => simp at i4 ⊢; exact i4
            | false =>
              rw [hsr] at i4
              unfold byLeft at hb
              rw [hsr] at hb
              simp at hb
              have h1 := hq.trans hb.1
              simp at h1
              rw [h1.2] at i4
              rw [hb.1, h1.1]
              simpa using i4
          · rename_i hnp
            split at hnx
            · rename_i hpre
              obtain ⟨q, hq⟩ := List.isPrefixOf_iff_prefix.1 hpre
              cases hnx
              simp only [Bool.not_true, Bool.false_eq_true, if_false] at i4
              rw [← hq, List.drop_left] at i4
              cases hsr : s.right with
              | true =>
                simp only [if_pos]
                rw [i4, ← hq]; simp
              | false =>
                unfold byLeft at hb
                rw [hsr] at hb
                simp at hb
                rw [hb.1] at hq ⊢
                simp only [Bool.false_eq_true, if_false]
                rw [i4, ← hq]; simp
            · cases hnx
      | false =>
        have hone : one w s = w.right := by unfold one; rw [hb]; rfl
        have hat : at_ w s = s.j := by unfold at_; rw [hb]; rfl
        rw [hone] at hmem hfit
        rw [hat] at hfit
        have hd1 : decide (s.i < s'.i) = false := by
          rw [decide_eq_false_iff_not]; intro h; rw [hlt.1 h] at hb; cases hb
        rw [hd1]
        have hsr : s.right = false := by
          unfold byLeft at hb
          rw [Bool.or_eq_false_iff] at hb
          exact hb.1
        rw [hb] at ei ej hnx
        simp only [Bool.false_eq_true, if_false] at ei ej
        have el : lefts ((false, r) :: l) = lefts l := by simp [lefts]
        have er : rights ((false, r) :: l) = r :: rights l := by simp [rights]
        rw [el, er]
        refine ⟨m, r.cost + k, ?_, ?_, ?_, ?_⟩
        · rw [← ei]; exact i1
        · show written w.right s.j ((r.index : Int) :: ints (rights l)) = _
          unfold written
          rw [find_index hw.right hmem]
          simp only
          rw [if_pos hfit, ← ej, i2]
          rfl
        · simp only at hcs; omega
        · show Rel s (form (lefts l)) (r.to_ ++ form (rights l))
          generalize form (lefts l) = f at *
          generalize form (rights l) = g at *
          unfold nextOf at hnx
          simp only [Bool.false_eq_true, if_false] at hnx
          unfold Rel at i4 ⊢
          rw [hsr]
          simp only [Bool.false_eq_true, if_false]
          split at hnx
          · rename_i hpre
            obtain ⟨q, hq⟩ := List.isPrefixOf_iff_prefix.1 hpre
            cases hnx
            simp only [hsr, Bool.false_and, Bool.false_eq_true, if_false] at i4
            rw [← hq, List.drop_left] at i4
            rw [i4, ← hq]; simp
          · split at hnx
            · rename_i hpre
              obtain ⟨q, hq⟩ := List.isPrefixOf_iff_prefix.1 hpre
              cases hnx
              simp only [Bool.not_false, if_pos] at i4
              rw [← hq, List.drop_left] at i4
              rw [i4, ← hq]; simp
            · cases hnx

/-- a derivation -/
structure D where
  cost : Int
  left : List Int
  right : List Int
  form : List UInt8
deriving DecidableEq

def best (w : Ws) : D × Int :=
  if endless ≤ cost w zero then (⟨0, [], [], []⟩, 11)
  else (let p := path w (meas w zero + 1) zero; ⟨cost w zero, ints (lefts p), ints (rights p), form (lefts p)⟩, 0)

def check (w : Ws) (d : D) : Bool :=
  match written w.left 0 d.left, written w.right 0 d.right with
  | some (f, m), some (g, n) => decide (f = d.form) && decide (g = d.form) && decide (m + n = d.cost)
  | _, _ => false

theorem check_iff {d : D} : check w d = true ↔ ∃ m n, written w.left 0 d.left = some (d.form, m) ∧ written w.right 0 d.right = some (d.form, n) ∧ m + n = d.cost := by
  unfold check
  constructor
  · intro h
    split at h
    · rename_i f m g n e1 e2
      rw [Bool.and_eq_true, Bool.and_eq_true, decide_eq_true_eq, decide_eq_true_eq, decide_eq_true_eq] at h
      obtain ⟨⟨rfl, h2⟩, h3⟩ := h
      exact ⟨m, n, e1, by rw [e2, h2], h3⟩
    · cases h
  · rintro ⟨m, n, e1, e2, e3⟩
    rw [e1, e2]
    simp [e3]

theorem best_checks (hw : w.Good) (h : (best w).2 = 0) : check w (best w).1 = true := by
  unfold best at h ⊢
  split
  · rename_i hc; rw [if_pos hc] at h; cases h
  · rename_i hc
    obtain ⟨m, k, h1, h2, h3, h4⟩ := sound hw (meas w zero + 1) zero (Nat.lt_succ_self _) within_zero (by omega)
    rw [check_iff]
    refine ⟨m, k, h1, ?_, h3⟩
    have : form (rights (path w (meas w zero + 1) zero)) = form (lefts (path w (meas w zero + 1) zero)) := by
      unfold Rel at h4
      rw [show zero.right = false from rfl, show zero.ahead = [] from rfl] at h4
      simpa using h4
    simp only
    rw [← this]
    exact h2

theorem written_cost {S : Side} (hS : S.Good) : ∀ (l : List Int) (k : Nat) (f : List UInt8) (c : Int), written S k l = some (f, c) → 0 ≤ c ∧ k + l.length ≤ S.letters.length ∧ c ≤ 1000 * l.length
  | [], k, f, c, h => by obtain ⟨h1, _, rfl⟩ := written_nil h; simp; omega
  | i :: l, k, f, c, h => by
    obtain ⟨r, f', c', hfi, hmem, hfit, hl', rfl, rfl⟩ := written_cons h
    obtain ⟨a, b, d⟩ := written_cost hS l _ _ _ hl'
    have := hS.cost r hmem
    have := List.length_pos_iff.2 (hS.some_ r hmem)
    simp only [List.length_cons]
    refine ⟨by omega, by omega, by omega⟩

/-- small words -/
structure Ws.Small (w : Ws) : Prop where
  left : w.left.letters.length ≤ 12
  right : w.right.letters.length ≤ 12

theorem cheapest (hw : w.Good) (hsm : w.Small) {d : D} (h : check w d = true) : (best w).2 = 0 ∧ (best w).1.cost ≤ d.cost := by
  obtain ⟨m, n, h1, h2, h3⟩ := check_iff.1 h
  obtain ⟨_, a2, a3⟩ := written_cost hw.left _ _ _ _ h1
  obtain ⟨_, b2, b3⟩ := written_cost hw.right _ _ _ _ h2
  have hc := complete hw _ zero d.left d.right d.form d.form m n (Nat.le_refl _) within_zero h1 h2 (by unfold Rel zero; simp)
  have := hsm.left
  have := hsm.right
  have : ¬ endless ≤ cost w zero := by unfold endless; omega
  unfold best
  rw [if_neg this]
  exact ⟨rfl, by simp only; omega⟩

def Ws.swap (w : Ws) : Ws := ⟨w.right, w.left⟩
def D.swap (d : D) : D := ⟨d.cost, d.right, d.left, d.form⟩

theorem check_swap {d : D} : check w.swap d.swap = check w d := by
  rw [Bool.eq_iff_iff, check_iff, check_iff]
  constructor
  · rintro ⟨m, n, a, b, c⟩; exact ⟨n, m, b, a, by simp only [D.swap] at c; omega⟩
  · rintro ⟨m, n, a, b, c⟩; exact ⟨n, m, b, a, by simp only [D.swap]; omega⟩

theorem best_two : (best w).2 = 0 ∨ ((best w).2 = 11 ∧ (best w).1.cost = 0) := by
  unfold best; split
  · exact .inr ⟨rfl, rfl⟩
  · exact .inl rfl

/-- BOTH WORDS EXCHANGED -/
theorem symmetric (hw : w.Good) (hsm : w.Small) : (best w.swap).2 = (best w).2 ∧ (best w.swap).1.cost = (best w).1.cost ∧ ((best w).2 = 0 → check w.swap (best w).1.swap = true) := by
  have hw' : w.swap.Good := ⟨hw.right, hw.left⟩
  have hsm' : w.swap.Small := ⟨hsm.right, hsm.left⟩
  have key : ∀ {v : Ws}, v.Good → v.swap.Good → v.swap.Small → (best v).2 = 0 → (best v.swap).2 = 0 ∧ (best v.swap).1.cost ≤ (best v).1.cost := fun {v} hv hv' hs' h => by
    have := best_checks hv h
    rw [← check_swap] at this
    have c := cheapest hv' hs' this
    exact c
  rcases best_two (w := w) with h | ⟨h, hc⟩
  · obtain ⟨a, b⟩ := key hw hw' hsm' h
    obtain ⟨_, c⟩ := key (v := w.swap) hw' hw hsm a
    refine ⟨by rw [a, h], Int.le_antisymm b c, fun _ => by rw [check_swap]; exact best_checks hw h⟩
  · rcases best_two (w := w.swap) with h' | ⟨h', hc'⟩
    · obtain ⟨a, _⟩ := key (v := w.swap) hw' hw hsm h'
      rw [show w.swap.swap = w from rfl, h] at a; cases a
    · exact ⟨by rw [h, h'], by rw [hc, hc'], fun e => by rw [h] at e; cases e⟩

/-- MORE RULES -/
theorem written_more {S S' : Side} (hl : S'.letters = S.letters) (hr : S.rules <+: S'.rules) : ∀ (l : List Int) (k : Nat) (p : List UInt8 × Int), written S k l = some p → written S' k l = some p
  | [], k, p, h => by unfold written at h ⊢; rw [hl]; exact h
  | i :: l, k, (f, c), h => by
    obtain ⟨r, f', c', hfi, hmem, hfit, hl', rfl, rfl⟩ := written_cons h
    obtain ⟨q, hq⟩ := hr
    have h2 := written_more hl ⟨q, hq⟩ l _ _ hl'
    unfold written
    rw [← hq, List.find?_append, hfi]
    simp only [Option.some_or]
    rw [hl, if_pos hfit, h2]
    rfl

theorem more_check {w' : Ws} (h1 : w'.left.letters = w.left.letters) (h2 : w'.right.letters = w.right.letters) (h3 : w.left.rules <+: w'.left.rules) (h4 : w.right.rules <+: w'.right.rules) {d : D} (h : check w d = true) : check w' d = true := by
  obtain ⟨m, n, a, b, c⟩ := check_iff.1 h
  exact check_iff.2 ⟨m, n, written_more h1 h3 _ _ _ a, written_more h2 h4 _ _ _ b, c⟩

end Al
