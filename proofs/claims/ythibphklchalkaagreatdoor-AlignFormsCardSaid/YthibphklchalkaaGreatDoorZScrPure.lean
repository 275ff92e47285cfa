/-
  The scripts' letters on lists of bytes: what a letter is, the letters of a word, folding. NO PROGRAM IN THIS TEXT.
-/
namespace Sc

def small : List UInt8 := [97, 98, 99, 100, 101, 102, 103, 104, 105, 106, 107, 108, 109, 110, 111, 112, 113, 114, 115, 116, 117, 118, 119, 120, 121, 122]
def caps : List UInt8 := [65, 66, 67, 68, 69, 70, 71, 72, 73, 74, 75, 76, 77, 78, 79, 80, 81, 82, 83, 84, 85, 86, 87, 88, 89, 90]
def acc : List UInt8 := [39, 96, 94]
def abj : List UInt8 := [98, 100, 102, 103, 104, 106, 107, 108, 109, 110, 112, 113, 114, 115, 116, 119, 120, 121, 122, 39]
def vow : List UInt8 := [97, 105, 117, 101, 111]
def ons : List UInt8 := [107, 115, 116, 110, 104, 109, 121, 114, 119, 103, 122, 100, 98, 112]

/-- is the byte at an index one of some? -/
def among (s : List UInt8) (i : Nat) (set : List UInt8) : Bool := match s[i]? with | some c => set.contains c | none => false

/-- a byte without capital -/
def low (c : UInt8) : UInt8 := if 65 ≤ c.toNat ∧ c.toNat ≤ 90 then c + 32 else c

/-- the length of the letter at the beginning; 0 if there is none -/
def len (k : Int) (s : List UInt8) : Nat :=
  if k = 1 then (if among s 0 small then 1 else 0)
  else if k = 2 then (if among (s.map low) 0 small then (if among s 1 acc then 2 else 1) else 0)
  else if k = 3 then (if among s 0 abj then 1 else 0)
  else if k = 4 then (if among s 0 ons && among s 1 vow then 2 else if among s 0 vow || among s 0 [110] then 1 else 0)
  else 0

theorem among_lt {s : List UInt8} {i : Nat} {set : List UInt8} (h : among s i set = true) : i < s.length := by
  unfold among at h
  cases hs : s[i]? with
  | none => rw [hs] at h; cases h
  | some c => exact (List.getElem?_eq_some_iff.1 hs).1

theorem among_mem {s : List UInt8} {i : Nat} {set : List UInt8} (h : among s i set = true) : ∃ c, s[i]? = some c ∧ c ∈ set := by
  unfold among at h
  cases hs : s[i]? with
  | none => rw [hs] at h; cases h
  | some c => rw [hs] at h; exact ⟨c, rfl, by simpa using h⟩

theorem len_le (k : Int) (s : List UInt8) : len k s ≤ s.length := by
  unfold len
  split
  · split
    · rename_i h; have := among_lt h; omega
    · omega
  split
  · split
    · rename_i h; have h1 := among_lt h; rw [List.length_map] at h1
      split
      · rename_i h2; have := among_lt h2; omega
      · omega
    · omega
  split
  · split
    · rename_i h; have := among_lt h; omega
    · omega
  split
  · split
    · rename_i h; simp only [Bool.and_eq_true] at h; have := among_lt h.2; omega
    · split
      · rename_i h; simp only [Bool.or_eq_true] at h
        rcases h with h | h
        · have := among_lt h; omega
        · have := among_lt h; omega
      · omega
  · omega

theorem len_two (k : Int) (s : List UInt8) : len k s ≤ 2 := by
  unfold len; repeat' split
  all_goals omega

/-- the letters with which a text begins, and what is left -/
def cut (k : Int) : Nat → List UInt8 → List (List UInt8) × List UInt8
  | 0, s => ([], s)
  | f + 1, s => if len k s = 0 then ([], s) else ((s.take (len k s)) :: (cut k f (s.drop (len k s))).1, (cut k f (s.drop (len k s))).2)

theorem cut_fuel (k : Int) : ∀ (f g : Nat) (s : List UInt8), s.length ≤ f → s.length ≤ g → cut k f s = cut k g s
  | 0, 0, s, _, _ => rfl
  | 0, g + 1, s, hf, _ => by
    have : s = [] := List.length_eq_zero_iff.1 (by omega)
    subst this
    have : len k [] = 0 := by have := len_le k []; simp at this; exact this
    simp [cut, this]
  | f + 1, 0, s, _, hg => by
    have : s = [] := List.length_eq_zero_iff.1 (by omega)
    subst this
    have : len k [] = 0 := by have := len_le k []; simp at this; exact this
    simp [cut, this]
  | f + 1, g + 1, s, hf, hg => by
    unfold cut
    by_cases h : len k s = 0
    · simp [h]
    · have hl := len_le k s
      rw [if_neg h, if_neg h, cut_fuel k f g (s.drop (len k s)) (by simp; omega) (by simp; omega)]

/-- all letters with which a text begins, and the rest -/
def cuts (k : Int) (s : List UInt8) : List (List UInt8) × List UInt8 := cut k s.length s

theorem cuts_stop {k : Int} {s : List UInt8} (h : len k s = 0) : cuts k s = ([], s) := by
  unfold cuts
  cases s with
  | nil => rfl
  | cons c s => simp [cut, h]
theorem cuts_step {k : Int} {s : List UInt8} (h : len k s ≠ 0) : cuts k s = (s.take (len k s) :: (cuts k (s.drop (len k s))).1, (cuts k (s.drop (len k s))).2) := by
  unfold cuts
  have hl := len_le k s
  obtain ⟨n, hn⟩ : ∃ n, s.length = n + 1 := ⟨s.length - 1, by omega⟩
  rw [hn]
  conv => lhs; unfold cut
  rw [if_neg h, cut_fuel k n (s.drop (len k s)).length (s.drop (len k s)) (by simp; omega) (Nat.le_refl _)]

/-- the letters of a word -/
def lets (k : Int) (s : List UInt8) : Option (List (List UInt8)) :=
  if (cuts k s).2 = [] ∧ (cuts k s).1 ≠ [] ∧ (cuts k s).1.length ≤ 12 then some (cuts k s).1 else none

theorem cuts_join (k : Int) : ∀ (n : Nat) (s : List UInt8), s.length ≤ n → (cuts k s).1.flatten ++ (cuts k s).2 = s := by
  intro n
  induction n with
  | zero =>
    intro s h
    have : s = [] := List.length_eq_zero_iff.1 (by omega)
    subst this
    rfl
  | succ n ih =>
    intro s h
    by_cases h0 : len k s = 0
    · rw [cuts_stop h0]; rfl
    · rw [cuts_step h0]
      have := ih (s.drop (len k s)) (by simp; omega)
      simp only [List.flatten_cons, List.append_assoc]
      rw [this, List.take_append_drop]

theorem lets_join {k : Int} {s : List UInt8} {l : List (List UInt8)} (h : lets k s = some l) : l.flatten = s := by
  unfold lets at h
  split at h
  · rename_i hc
    obtain rfl := Option.some.inj h
    have := cuts_join k _ s (Nat.le_refl _)
    rw [hc.1, List.append_nil] at this
    exact this
  · cases h

theorem lets_len {k : Int} {s : List UInt8} {l : List (List UInt8)} (h : lets k s = some l) : l ≠ [] ∧ l.length ≤ 12 := by
  unfold lets at h
  split at h
  · rename_i hc; obtain rfl := Option.some.inj h; exact hc.2
  · cases h

/-! ### ASCII, folding -/

theorem small_lt : ∀ c ∈ small, c.toNat < 128 := by decide
theorem caps_lt : ∀ c ∈ caps, c.toNat < 128 := by decide
theorem acc_lt : ∀ c ∈ acc, c.toNat < 128 := by decide
theorem abj_lt : ∀ c ∈ abj, c.toNat < 128 := by decide
theorem vow_lt : ∀ c ∈ vow, c.toNat < 128 := by decide
theorem ons_lt : ∀ c ∈ ons, c.toNat < 128 := by decide

theorem small_iff (c : UInt8) : c ∈ small ↔ 97 ≤ c.toNat ∧ c.toNat ≤ 122 := by
  constructor
  · intro h; revert c; decide
  · intro h
    have e : c = UInt8.ofNat c.toNat := by simp
    rw [e]
    generalize c.toNat = n at h
    have key : ∀ n, n < 123 → 97 ≤ n → UInt8.ofNat n ∈ small := by decide
    exact key n (by omega) h.1
theorem caps_iff (c : UInt8) : c ∈ caps ↔ 65 ≤ c.toNat ∧ c.toNat ≤ 90 := by
  constructor
  · intro h; revert c; decide
  · intro h
    have e : c = UInt8.ofNat c.toNat := by simp
    rw [e]
    generalize c.toNat = n at h
    have key : ∀ n, n < 91 → 65 ≤ n → UInt8.ofNat n ∈ caps := by decide
    exact key n (by omega) h.1

theorem low_nat (c : UInt8) : (low c).toNat = if 65 ≤ c.toNat ∧ c.toNat ≤ 90 then c.toNat + 32 else c.toNat := by
  unfold low
  split
  · rename_i h; rw [UInt8.toNat_add]; show (c.toNat + 32) % 256 = _; omega
  · rfl

theorem low_small (c : UInt8) : small.contains (low c) = (small.contains c || caps.contains c) := by
  rw [Bool.eq_iff_iff]
  simp only [Bool.or_eq_true, List.contains_iff_mem, small_iff, caps_iff, low_nat]
  split <;> omega

theorem low_lt {c : UInt8} (h : (low c).toNat < 128) : c.toNat < 128 := by
  rw [low_nat] at h; split at h <;> omega

theorem low_low (c : UInt8) : low (low c) = low c := by
  apply UInt8.toNat_inj.1
  rw [low_nat (low c)]
  have := low_nat c
  split
  · rename_i h; rw [this] at h; split at h <;> omega
  · rfl

theorem low_keep {c : UInt8} (h : ¬ (65 ≤ c.toNat ∧ c.toNat ≤ 90)) : low c = c := by unfold low; rw [if_neg h]

theorem among_map {s : List UInt8} {i : Nat} {set : List UInt8} (h : ∀ c : UInt8, set.contains (low c) = set.contains c) : among (s.map low) i set = among s i set := by
  unfold among
  rw [List.getElem?_map]
  cases s[i]? with
  | none => rfl
  | some c => exact h c

theorem among_map2 (s : List UInt8) (i : Nat) : among ((s.map low).map low) i small = among (s.map low) i small := by
  unfold among
  simp only [List.getElem?_map]
  cases s[i]? with
  | none => rfl
  | some c => simp [low_low]

theorem acc_low (c : UInt8) : acc.contains (low c) = acc.contains c := by
  have key : ∀ d ∈ acc, ¬ (97 ≤ d.toNat ∧ d.toNat ≤ 122) ∧ ¬ (65 ≤ d.toNat ∧ d.toNat ≤ 90) := by decide
  rw [Bool.eq_iff_iff]
  simp only [List.contains_iff_mem]
  constructor
  · intro h
    have := key _ h
    rw [low_nat] at this
    by_cases hc : 65 ≤ c.toNat ∧ c.toNat ≤ 90
    · rw [if_pos hc] at this; omega
    · rwa [low_keep hc] at h
  · intro h
    rw [low_keep (key _ h).2]; exact h

/-- bytes of a letter are ASCII -/
theorem len_ascii {k : Int} {s : List UInt8} : ∀ c ∈ s.take (len k s), c.toNat < 128 := by
  intro c hc
  obtain ⟨i, hi⟩ := List.getElem?_of_mem hc
  rw [List.getElem?_take] at hi
  split at hi
  · rename_i hlt
    have h2 := len_two k s
    have h0 : ∀ {set : List UInt8}, among s 0 set = true → (∀ c ∈ set, c.toNat < 128) → i = 0 → c.toNat < 128 := by
      intro set h1 h3 h4
      subst h4
      obtain ⟨d, hd, hm⟩ := among_mem h1
      rw [hi] at hd; obtain rfl := Option.some.inj hd; exact h3 _ hm
    have h1' : ∀ {set : List UInt8}, among s 1 set = true → (∀ c ∈ set, c.toNat < 128) → i = 1 → c.toNat < 128 := by
      intro set h1 h3 h4
      subst h4
      obtain ⟨d, hd, hm⟩ := among_mem h1
      rw [hi] at hd; obtain rfl := Option.some.inj hd; exact h3 _ hm
    have i01 : i = 0 ∨ i = 1 := by omega
    unfold len at hlt
    split at hlt
    · split at hlt
      · rename_i h; exact h0 h small_lt (by omega)
      · omega
    split at hlt
    · split at hlt
      · rename_i h
        rcases i01 with rfl | rfl
        · obtain ⟨d, hd, hm⟩ := among_mem h
          rw [List.getElem?_map, hi] at hd
          obtain rfl := Option.some.inj hd
          exact low_lt (small_lt _ hm)
        · split at hlt
          · rename_i h3; exact h1' h3 acc_lt rfl
          · omega
      · omega
    split at hlt
    · split at hlt
      · rename_i h; exact h0 h abj_lt (by omega)
      · omega
    split at hlt
    · split at hlt
      · rename_i h
        simp only [Bool.and_eq_true] at h
        rcases i01 with rfl | rfl
        · exact h0 h.1 ons_lt rfl
        · exact h1' h.2 vow_lt rfl
      · split at hlt
        · rename_i h
          simp only [Bool.or_eq_true] at h
          rcases h with h | h
          · exact h0 h vow_lt (by omega)
          · exact h0 h (by decide) (by omega)
        · omega
    · omega
  · cases hi

theorem cuts_ascii (k : Int) : ∀ (n : Nat) (s : List UInt8), s.length ≤ n → ∀ l ∈ (cuts k s).1, ∀ c ∈ l, c.toNat < 128 := by
  intro n
  induction n with
  | zero =>
    intro s h l hl
    have : s = [] := List.length_eq_zero_iff.1 (by omega)
    subst this
    cases hl
  | succ n ih =>
    intro s h l hl
    by_cases h0 : len k s = 0
    · rw [cuts_stop h0] at hl; cases hl
    · rw [cuts_step h0] at hl
      simp only [List.mem_cons] at hl
      rcases hl with rfl | hl
      · exact len_ascii
      · exact ih _ (by simp; omega) l hl

theorem lets_ascii {k : Int} {s : List UInt8} {l : List (List UInt8)} (h : lets k s = some l) : ∀ c ∈ s, c.toNat < 128 := by
  have hj := lets_join h
  unfold lets at h
  split at h
  · obtain rfl := Option.some.inj h
    intro c hc
    rw [← hj, List.mem_flatten] at hc
    obtain ⟨l, hl, hcl⟩ := hc
    exact cuts_ascii k _ s (Nat.le_refl _) l hl c hcl
  · cases h

/-- a word without capitals -/
def fold (s : List UInt8) : List UInt8 := s.map low

theorem len_at2 (s : List UInt8) : len 2 s = if among (s.map low) 0 small then (if among s 1 acc then 2 else 1) else 0 := by
  unfold len
  rw [if_neg (by decide), if_pos rfl]

theorem len_fold2 (s : List UInt8) : len 2 (fold s) = len 2 s := by
  unfold fold
  rw [len_at2, len_at2, among_map2, among_map acc_low]

theorem cuts_fold2 : ∀ (n : Nat) (s : List UInt8), s.length ≤ n → cuts 2 (fold s) = ((cuts 2 s).1.map fold, fold (cuts 2 s).2) := by
  intro n
  induction n with
  | zero =>
    intro s h
    have : s = [] := List.length_eq_zero_iff.1 (by omega)
    subst this
    rfl
  | succ n ih =>
    intro s h
    by_cases h0 : len 2 s = 0
    · rw [cuts_stop h0, cuts_stop (by rw [len_fold2]; exact h0)]; rfl
    · rw [cuts_step h0, cuts_step (by rw [len_fold2]; exact h0), len_fold2]
      have e1 : (fold s).drop (len 2 s) = fold (s.drop (len 2 s)) := by simp [fold]
      have e2 : (fold s).take (len 2 s) = fold (s.take (len 2 s)) := by simp [fold]
      rw [e1, e2, ih _ (by simp; omega)]
      rfl

theorem len_nocap {k : Int} {s : List UInt8} (hk : k ≠ 2) : ∀ c ∈ s.take (len k s), ¬ (65 ≤ c.toNat ∧ c.toNat ≤ 90) := by
  intro c hc
  obtain ⟨i, hi⟩ := List.getElem?_of_mem hc
  rw [List.getElem?_take] at hi
  split at hi
  · rename_i hlt
    have h2 := len_two k s
    have h0 : ∀ {set : List UInt8} {j : Nat}, among s j set = true → (∀ c ∈ set, ¬ (65 ≤ c.toNat ∧ c.toNat ≤ 90)) → i = j → ¬ (65 ≤ c.toNat ∧ c.toNat ≤ 90) := by
      intro set j h1 h3 h4
      subst h4
      obtain ⟨d, hd, hm⟩ := among_mem h1
      rw [hi] at hd; obtain rfl := Option.some.inj hd; exact h3 _ hm
    have i01 : i = 0 ∨ i = 1 := by omega
    unfold len at hlt
    by_cases k1 : k = 1
    · rw [if_pos k1] at hlt
      split at hlt
      · rename_i h; exact h0 h (by decide) (by omega)
      · omega
    rw [if_neg k1, if_neg hk] at hlt
    by_cases k3 : k = 3
    · rw [if_pos k3] at hlt
      split at hlt
      · rename_i h; exact h0 h (by decide) (by omega)
      · omega
    rw [if_neg k3] at hlt
    by_cases k4 : k = 4
    · rw [if_pos k4] at hlt
      split at hlt
      · rename_i h
        simp only [Bool.and_eq_true] at h
        rcases i01 with rfl | rfl
        · exact h0 h.1 (by decide) rfl
        · exact h0 h.2 (by decide) rfl
      · split at hlt
        · rename_i h
          simp only [Bool.or_eq_true] at h
          rcases h with h | h
          · exact h0 h (by decide) (by omega)
          · exact h0 h (by decide) (by omega)
        · omega
    · rw [if_neg k4] at hlt; omega
  · cases hi

theorem cuts_nocap {k : Int} (hk : k ≠ 2) : ∀ (n : Nat) (s : List UInt8), s.length ≤ n → ∀ l ∈ (cuts k s).1, ∀ c ∈ l, ¬ (65 ≤ c.toNat ∧ c.toNat ≤ 90) := by
  intro n
  induction n with
  | zero =>
    intro s h l hl
    have : s = [] := List.length_eq_zero_iff.1 (by omega)
    subst this
    cases hl
  | succ n ih =>
    intro s h l hl
    by_cases h0 : len k s = 0
    · rw [cuts_stop h0] at hl; cases hl
    · rw [cuts_step h0] at hl
      simp only [List.mem_cons] at hl
      rcases hl with rfl | hl
      · exact len_nocap hk
      · exact ih _ (by simp; omega) l hl

theorem fold_keep {s : List UInt8} (h : ∀ c ∈ s, ¬ (65 ≤ c.toNat ∧ c.toNat ≤ 90)) : fold s = s := by
  unfold fold
  conv => rhs; rw [← List.map_id s]
  exact List.map_congr_left fun c hc => low_keep (h c hc)

/-- the folded word's letters -/
theorem lets_fold {k : Int} {s : List UInt8} {l : List (List UInt8)} (h : lets k s = some l) : lets k (fold s) = some (l.map fold) := by
  by_cases hk : k = 2
  · subst hk
    unfold lets at h ⊢
    split at h
    · rename_i hc
      obtain rfl := Option.some.inj h
      rw [cuts_fold2 _ s (Nat.le_refl _)]
      rw [if_pos ⟨by rw [hc.1]; rfl, by simpa using hc.2.1, by simpa using hc.2.2⟩]
    · cases h
  · have hj := lets_join h
    have hl : ∀ x ∈ l, ∀ c ∈ x, ¬ (65 ≤ c.toNat ∧ c.toNat ≤ 90) := by
      unfold lets at h
      split at h
      · obtain rfl := Option.some.inj h
        exact cuts_nocap hk _ s (Nat.le_refl _)
      · cases h
    have e1 : fold s = s := fold_keep (by
      intro c hc
      rw [← hj, List.mem_flatten] at hc
      obtain ⟨x, hx, hcx⟩ := hc
      exact hl x hx c hcx)
    have e2 : l.map fold = l := by
      conv => rhs; rw [← List.map_id l]
      exact List.map_congr_left fun x hx => fold_keep (hl x hx)
    rw [e1, e2]; exact h

theorem fold_fold (s : List UInt8) : fold (fold s) = fold s := by
  unfold fold; rw [List.map_map]; exact List.map_congr_left fun c _ => low_low c

theorem fold_length (s : List UInt8) : (fold s).length = s.length := by simp [fold]

end Sc
