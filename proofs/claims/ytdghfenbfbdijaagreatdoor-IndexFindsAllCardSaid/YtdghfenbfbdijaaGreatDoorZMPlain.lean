/-
 Several texts in one: ZScrPure, ZRewPure, ZAlPure, ZAlBest, ZFormPure, ZFormB, ZFormAl, ZFormD, ZFormLaws. Conditions: as each law says.
-/
namespace Sc
def small : List UInt8 := [97,98,99,100,101,102,103,104,105,106,107,108,109,110,111,112,113,114,115,116,117,118,119,120,121,122]
def acc : List UInt8 := [39,96,94]
def abj : List UInt8 := [98,100,102,103,104,106,107,108,109,110,112,113,114,115,116,119,120,121,122,39]
def vow : List UInt8 := [97,105,117,101,111]
def ons : List UInt8 := [107,115,116,110,104,109,121,114,119,103,122,100,98,112]
def among (s : List UInt8) (i : Nat) (set : List UInt8) : Bool := match s[i]? with | some c => set.contains c | none => false
def low (c : UInt8) : UInt8 := if 65 ≤ c.toNat ∧ c.toNat ≤ 90 then c + 32 else c
def len (k : Int) (s : List UInt8) : Nat :=
 if k = 1 then (if among s 0 small then 1 else 0)
 else if k = 2 then (if among (s.map low) 0 small then (if among s 1 acc then 2 else 1) else 0)
 else if k = 3 then (if among s 0 abj then 1 else 0)
 else if k = 4 then (if among s 0 ons && among s 1 vow then 2 else if among s 0 vow || among s 0 [110] then 1 else 0)
 else 0
theorem among_lt {s : List UInt8} {i : Nat} {set : List UInt8} (h : among s i set = true) : i < s.length := by
 unfold among at h
 cases hs : s[i]? with
 | none => rw [hs] at h; cases h
 | some c => exact (List.getElem?_eq_some_iff.1 hs).1
theorem among_mem {s : List UInt8} {i : Nat} {set : List UInt8} (h : among s i set = true) : ∃ c,s[i]? = some c ∧ c ∈ set := by
 unfold among at h
 cases hs : s[i]? with
 | none => rw [hs] at h; cases h
 | some c => rw [hs] at h; exact ⟨c,rfl,by simpa using h⟩
theorem len_le (k : Int) (s : List UInt8) : len k s ≤ s.length := by
 unfold len
 split
 ·split
  ·rename_i h; have := among_lt h; omega
  ·omega
 split
 ·split
  ·rename_i h; have h1 := among_lt h; rw [List.length_map] at h1
   split
   ·rename_i h2; have := among_lt h2; omega
   ·omega
  ·omega
 split
 ·split
  ·rename_i h; have := among_lt h; omega
  ·omega
 split
 ·split
  ·rename_i h; simp only [Bool.and_eq_true] at h; have := among_lt h.2; omega
  ·split
   ·rename_i h; simp only [Bool.or_eq_true] at h
    rcases h with h | h
    ·have := among_lt h; omega
    ·have := among_lt h; omega
   ·omega
 ·omega
theorem len_two (k : Int) (s : List UInt8) : len k s ≤ 2 := by
 unfold len; repeat' split
 all_goals omega
def cut (k : Int) : Nat → List UInt8 → List (List UInt8) × List UInt8
 | 0,s => ([],s)
 | f + 1,s => if len k s = 0 then ([],s) else ((s.take (len k s)) :: (cut k f (s.drop (len k s))).1,(cut k f (s.drop (len k s))).2)
theorem cut_fuel (k : Int) : ∀ (f g : Nat) (s : List UInt8),s.length ≤ f → s.length ≤ g → cut k f s = cut k g s
 | 0,0,s,_,_ => rfl
 | 0,g + 1,s,hf,_ => by
  have : s = [] := List.length_eq_zero_iff.1 (by omega)
  subst this
  have : len k [] = 0 := by have := len_le k []; simp at this; exact this
  simp [cut,this]
 | f + 1,0,s,_,hg => by
  have : s = [] := List.length_eq_zero_iff.1 (by omega)
  subst this
  have : len k [] = 0 := by have := len_le k []; simp at this; exact this
  simp [cut,this]
 | f + 1,g + 1,s,hf,hg => by
  unfold cut
  by_cases h : len k s = 0
  ·simp [h]
  ·have hl := len_le k s
   rw [if_neg h,if_neg h,cut_fuel k f g (s.drop (len k s)) (by simp; omega) (by simp; omega)]
def cuts (k : Int) (s : List UInt8) : List (List UInt8) × List UInt8 := cut k s.length s
theorem cuts_stop {k : Int} {s : List UInt8} (h : len k s = 0) : cuts k s = ([],s) := by
 unfold cuts
 cases s with
 | nil => rfl
 | cons c s => simp [cut,h]
theorem cuts_step {k : Int} {s : List UInt8} (h : len k s ≠ 0) : cuts k s = (s.take (len k s) :: (cuts k (s.drop (len k s))).1,(cuts k (s.drop (len k s))).2) := by
 unfold cuts
 have hl := len_le k s
 obtain ⟨n,hn⟩ : ∃ n,s.length = n + 1 := ⟨s.length - 1,by omega⟩
 rw [hn]
 conv => lhs; unfold cut
 rw [if_neg h,cut_fuel k n (s.drop (len k s)).length (s.drop (len k s)) (by simp; omega) (Nat.le_refl _)]
def lets (k : Int) (s : List UInt8) : Option (List (List UInt8)) :=
 if (cuts k s).2 = [] ∧ (cuts k s).1 ≠ [] ∧ (cuts k s).1.length ≤ 12 then some (cuts k s).1 else none
theorem cuts_join (k : Int) : ∀ (n : Nat) (s : List UInt8),s.length ≤ n → (cuts k s).1.flatten ++ (cuts k s).2 = s := by
 intro n
 induction n with
 | zero =>
  intro s h
  have : s = [] := List.length_eq_zero_iff.1 (by omega)
  subst this
  rfl
 | succ n ih =>
  intro s h
  by_cases h0 : len k s = 0
  ·rw [cuts_stop h0]; rfl
  ·rw [cuts_step h0]
   have := ih (s.drop (len k s)) (by simp; omega)
   simp only [List.flatten_cons,List.append_assoc]
   rw [this,List.take_append_drop]
theorem lets_join {k : Int} {s : List UInt8} {l : List (List UInt8)} (h : lets k s = some l) : l.flatten = s := by
 unfold lets at h
 split at h
 ·rename_i hc
  obtain rfl := Option.some.inj h
  have := cuts_join k _ s (Nat.le_refl _)
  rw [hc.1,List.append_nil] at this
  exact this
 ·cases h
theorem lets_len {k : Int} {s : List UInt8} {l : List (List UInt8)} (h : lets k s = some l) : l ≠ [] ∧ l.length ≤ 12 := by
 unfold lets at h
 split at h
 ·rename_i hc; obtain rfl := Option.some.inj h; exact hc.2
 ·cases h
/-! ### ASCII, folding -/
theorem small_lt : ∀ c ∈ small,c.toNat < 128 := by decide
theorem acc_lt : ∀ c ∈ acc,c.toNat < 128 := by decide
theorem abj_lt : ∀ c ∈ abj,c.toNat < 128 := by decide
theorem vow_lt : ∀ c ∈ vow,c.toNat < 128 := by decide
theorem ons_lt : ∀ c ∈ ons,c.toNat < 128 := by decide
theorem low_nat (c : UInt8) : (low c).toNat = if 65 ≤ c.toNat ∧ c.toNat ≤ 90 then c.toNat + 32 else c.toNat := by
 unfold low
 split
 ·rename_i h; rw [UInt8.toNat_add]; show (c.toNat + 32) % 256 = _; omega
 ·rfl
theorem low_lt {c : UInt8} (h : (low c).toNat < 128) : c.toNat < 128 := by
 rw [low_nat] at h; split at h <;> omega
theorem low_low (c : UInt8) : low (low c) = low c := by
 apply UInt8.toNat_inj.1
 rw [low_nat (low c)]
 have := low_nat c
 split
 ·rename_i h; rw [this] at h; split at h <;> omega
 ·rfl
theorem low_keep {c : UInt8} (h : ¬ (65 ≤ c.toNat ∧ c.toNat ≤ 90)) : low c = c := by unfold low; rw [if_neg h]
theorem among_map {s : List UInt8} {i : Nat} {set : List UInt8} (h : ∀ c : UInt8,set.contains (low c) = set.contains c) : among (s.map low) i set = among s i set := by
 unfold among
 rw [List.getElem?_map]
 cases s[i]? with
 | none => rfl
 | some c => exact h c
theorem among_map2 (s : List UInt8) (i : Nat) : among ((s.map low).map low) i small = among (s.map low) i small := by
 unfold among
 simp only [List.getElem?_map]
 cases s[i]? with
 | none => rfl
 | some c => simp [low_low]
theorem acc_low (c : UInt8) : acc.contains (low c) = acc.contains c := by
 have key : ∀ d ∈ acc,¬ (97 ≤ d.toNat ∧ d.toNat ≤ 122) ∧ ¬ (65 ≤ d.toNat ∧ d.toNat ≤ 90) := by decide
 rw [Bool.eq_iff_iff]
 simp only [List.contains_iff_mem]
 constructor
 ·intro h
  have := key _ h
  rw [low_nat] at this
  by_cases hc : 65 ≤ c.toNat ∧ c.toNat ≤ 90
  ·rw [if_pos hc] at this; omega
  ·rwa [low_keep hc] at h
 ·intro h
  rw [low_keep (key _ h).2]; exact h
theorem len_ascii {k : Int} {s : List UInt8} : ∀ c ∈ s.take (len k s),c.toNat < 128 := by
 intro c hc
 obtain ⟨i,hi⟩ := List.getElem?_of_mem hc
 rw [List.getElem?_take] at hi
 split at hi
 ·rename_i hlt
  have h2 := len_two k s
  have h0 : ∀ {set : List UInt8},among s 0 set = true → (∀ c ∈ set,c.toNat < 128) → i = 0 → c.toNat < 128 := by
   intro set h1 h3 h4
   subst h4
   obtain ⟨d,hd,hm⟩ := among_mem h1
   rw [hi] at hd; obtain rfl := Option.some.inj hd; exact h3 _ hm
  have h1' : ∀ {set : List UInt8},among s 1 set = true → (∀ c ∈ set,c.toNat < 128) → i = 1 → c.toNat < 128 := by
   intro set h1 h3 h4
   subst h4
   obtain ⟨d,hd,hm⟩ := among_mem h1
   rw [hi] at hd; obtain rfl := Option.some.inj hd; exact h3 _ hm
  have i01 : i = 0 ∨ i = 1 := by omega
  unfold len at hlt
  split at hlt
  ·split at hlt
   ·rename_i h; exact h0 h small_lt (by omega)
   ·omega
  split at hlt
  ·split at hlt
   ·rename_i h
    rcases i01 with rfl | rfl
    ·obtain ⟨d,hd,hm⟩ := among_mem h
     rw [List.getElem?_map,hi] at hd
     obtain rfl := Option.some.inj hd
     exact low_lt (small_lt _ hm)
    ·split at hlt
     ·rename_i h3; exact h1' h3 acc_lt rfl
     ·omega
   ·omega
  split at hlt
  ·split at hlt
   ·rename_i h; exact h0 h abj_lt (by omega)
   ·omega
  split at hlt
  ·split at hlt
   ·rename_i h
    simp only [Bool.and_eq_true] at h
    rcases i01 with rfl | rfl
    ·exact h0 h.1 ons_lt rfl
    ·exact h1' h.2 vow_lt rfl
   ·split at hlt
    ·rename_i h
     simp only [Bool.or_eq_true] at h
     rcases h with h | h
     ·exact h0 h vow_lt (by omega)
     ·exact h0 h (by decide) (by omega)
    ·omega
  ·omega
 ·cases hi
theorem cuts_ascii (k : Int) : ∀ (n : Nat) (s : List UInt8),s.length ≤ n → ∀ l ∈ (cuts k s).1,∀ c ∈ l,c.toNat < 128 := by
 intro n
 induction n with
 | zero =>
  intro s h l hl
  have : s = [] := List.length_eq_zero_iff.1 (by omega)
  subst this
  cases hl
 | succ n ih =>
  intro s h l hl
  by_cases h0 : len k s = 0
  ·rw [cuts_stop h0] at hl; cases hl
  ·rw [cuts_step h0] at hl
   simp only [List.mem_cons] at hl
   rcases hl with rfl | hl
   ·exact len_ascii
   ·exact ih _ (by simp; omega) l hl
theorem lets_ascii {k : Int} {s : List UInt8} {l : List (List UInt8)} (h : lets k s = some l) : ∀ c ∈ s,c.toNat < 128 := by
 have hj := lets_join h
 unfold lets at h
 split at h
 ·obtain rfl := Option.some.inj h
  intro c hc
  rw [← hj,List.mem_flatten] at hc
  obtain ⟨l,hl,hcl⟩ := hc
  exact cuts_ascii k _ s (Nat.le_refl _) l hl c hcl
 ·cases h
def fold (s : List UInt8) : List UInt8 := s.map low
theorem len_at2 (s : List UInt8) : len 2 s = if among (s.map low) 0 small then (if among s 1 acc then 2 else 1) else 0 := by
 unfold len
 rw [if_neg (by decide),if_pos rfl]
theorem len_fold2 (s : List UInt8) : len 2 (fold s) = len 2 s := by
 unfold fold
 rw [len_at2,len_at2,among_map2,among_map acc_low]
theorem cuts_fold2 : ∀ (n : Nat) (s : List UInt8),s.length ≤ n → cuts 2 (fold s) = ((cuts 2 s).1.map fold,fold (cuts 2 s).2) := by
 intro n
 induction n with
 | zero =>
  intro s h
  have : s = [] := List.length_eq_zero_iff.1 (by omega)
  subst this
  rfl
 | succ n ih =>
  intro s h
  by_cases h0 : len 2 s = 0
  ·rw [cuts_stop h0,cuts_stop (by rw [len_fold2]; exact h0)]; rfl
  ·rw [cuts_step h0,cuts_step (by rw [len_fold2]; exact h0),len_fold2]
   have e1 : (fold s).drop (len 2 s) = fold (s.drop (len 2 s)) := by simp [fold]
   have e2 : (fold s).take (len 2 s) = fold (s.take (len 2 s)) := by simp [fold]
   rw [e1,e2,ih _ (by simp; omega)]
   rfl
theorem len_nocap {k : Int} {s : List UInt8} (hk : k ≠ 2) : ∀ c ∈ s.take (len k s),¬ (65 ≤ c.toNat ∧ c.toNat ≤ 90) := by
 intro c hc
 obtain ⟨i,hi⟩ := List.getElem?_of_mem hc
 rw [List.getElem?_take] at hi
 split at hi
 ·rename_i hlt
  have h2 := len_two k s
  have h0 : ∀ {set : List UInt8} {j : Nat},among s j set = true → (∀ c ∈ set,¬ (65 ≤ c.toNat ∧ c.toNat ≤ 90)) → i = j → ¬ (65 ≤ c.toNat ∧ c.toNat ≤ 90) := by
   intro set j h1 h3 h4
   subst h4
   obtain ⟨d,hd,hm⟩ := among_mem h1
   rw [hi] at hd; obtain rfl := Option.some.inj hd; exact h3 _ hm
  have i01 : i = 0 ∨ i = 1 := by omega
  unfold len at hlt
  by_cases k1 : k = 1
  ·rw [if_pos k1] at hlt
   split at hlt
   ·rename_i h; exact h0 h (by decide) (by omega)
   ·omega
  rw [if_neg k1,if_neg hk] at hlt
  by_cases k3 : k = 3
  ·rw [if_pos k3] at hlt
   split at hlt
   ·rename_i h; exact h0 h (by decide) (by omega)
   ·omega
  rw [if_neg k3] at hlt
  by_cases k4 : k = 4
  ·rw [if_pos k4] at hlt
   split at hlt
   ·rename_i h
    simp only [Bool.and_eq_true] at h
    rcases i01 with rfl | rfl
    ·exact h0 h.1 (by decide) rfl
    ·exact h0 h.2 (by decide) rfl
   ·split at hlt
    ·rename_i h
     simp only [Bool.or_eq_true] at h
     rcases h with h | h
     ·exact h0 h (by decide) (by omega)
     ·exact h0 h (by decide) (by omega)
    ·omega
  ·rw [if_neg k4] at hlt; omega
 ·cases hi
theorem cuts_nocap {k : Int} (hk : k ≠ 2) : ∀ (n : Nat) (s : List UInt8),s.length ≤ n → ∀ l ∈ (cuts k s).1,∀ c ∈ l,¬ (65 ≤ c.toNat ∧ c.toNat ≤ 90) := by
 intro n
 induction n with
 | zero =>
  intro s h l hl
  have : s = [] := List.length_eq_zero_iff.1 (by omega)
  subst this
  cases hl
 | succ n ih =>
  intro s h l hl
  by_cases h0 : len k s = 0
  ·rw [cuts_stop h0] at hl; cases hl
  ·rw [cuts_step h0] at hl
   simp only [List.mem_cons] at hl
   rcases hl with rfl | hl
   ·exact len_nocap hk
   ·exact ih _ (by simp; omega) l hl
theorem fold_keep {s : List UInt8} (h : ∀ c ∈ s,¬ (65 ≤ c.toNat ∧ c.toNat ≤ 90)) : fold s = s := by
 unfold fold
 conv => rhs; rw [← List.map_id s]
 exact List.map_congr_left fun c hc => low_keep (h c hc)
theorem lets_fold {k : Int} {s : List UInt8} {l : List (List UInt8)} (h : lets k s = some l) : lets k (fold s) = some (l.map fold) := by
 by_cases hk : k = 2
 ·subst hk
  unfold lets at h ⊢
  split at h
  ·rename_i hc
   obtain rfl := Option.some.inj h
   rw [cuts_fold2 _ s (Nat.le_refl _)]
   rw [if_pos ⟨by rw [hc.1]; rfl,by simpa using hc.2.1,by simpa using hc.2.2⟩]
  ·cases h
 ·have hj := lets_join h
  have hl : ∀ x ∈ l,∀ c ∈ x,¬ (65 ≤ c.toNat ∧ c.toNat ≤ 90) := by
   unfold lets at h
   split at h
   ·obtain rfl := Option.some.inj h
    exact cuts_nocap hk _ s (Nat.le_refl _)
   ·cases h
  have e1 : fold s = s := fold_keep (by
   intro c hc
   rw [← hj,List.mem_flatten] at hc
   obtain ⟨x,hx,hcx⟩ := hc
   exact hl x hx c hcx)
  have e2 : l.map fold = l := by
   conv => rhs; rw [← List.map_id l]
   exact List.map_congr_left fun x hx => fold_keep (hl x hx)
  rw [e1,e2]; exact h
theorem fold_length (s : List UInt8) : (fold s).length = s.length := by simp [fold]
end Sc
namespace Rw
structure Rule where
 script : Int
 from_ : List UInt8
 to_ : List UInt8
 cost : Int
deriving DecidableEq
structure Drop where
 script : Int
 word : List UInt8
 cost : Int
deriving DecidableEq
structure Table where
 rules : List Rule
 drops : List Drop
 ends : List Drop
 drop : Int
 order : Int
 initial : Int
def isForm (s : List UInt8) : Bool := decide (s.length ≤ 3) && s.all Sc.small.contains
def isCost (n : Int) : Bool := decide (0 ≤ n) && decide (n ≤ 1000)
def folded (k : Int) (s : List UInt8) (most : Int) : Bool :=
 match Sc.lets k s with
 | none => false
 | some ls => decide (Sc.fold s = s) && decide ((ls.length : Int) ≤ most)
def Rule.key (r : Rule) : Int × List UInt8 × List UInt8 := (r.script,r.from_,r.to_)
def Drop.key (d : Drop) : Int × List UInt8 × List UInt8 := (d.script,d.word,[])
def ruleOk (r : Rule) : Bool := folded r.script r.from_ 3 && isForm r.to_ && isCost r.cost
def dropOk (most : Int) (d : Drop) : Bool := folded d.script d.word most && isCost d.cost
def allOk {α : Type} (ok : α → Bool) (key : α → Int × List UInt8 × List UInt8) : List α → List (Int × List UInt8 × List UInt8) → Bool
 | [],_ => true
 | x :: l,seen => !seen.contains (key x) && ok x && allOk ok key l (seen ++ [key x])
def dropsOk (l : List Drop) (most : Int) : Bool := allOk (dropOk most) Drop.key l [] && decide (l.length ≤ 40)
def valid (t : Table) : Bool :=
 decide (t.rules ≠ []) && decide (t.rules.length ≤ 80) && isCost t.drop && isCost t.order && isCost t.initial && allOk ruleOk Rule.key t.rules [] && dropsOk t.drops 12 && dropsOk t.ends 4
theorem allOk_append {α : Type} (ok : α → Bool) (key : α → Int × List UInt8 × List UInt8) : ∀ (a b : List α) (seen : List (Int × List UInt8 × List UInt8)),allOk ok key (a ++ b) seen = (allOk ok key a seen && allOk ok key b (seen ++ a.map key))
 | [],b,seen => by simp [allOk]
 | x :: a,b,seen => by
  simp only [List.cons_append,allOk,List.map_cons]
  rw [allOk_append ok key a b]
  simp [Bool.and_assoc]
end Rw
namespace Al
def endless : Int := 1099511627776
structure R where
 index : Nat
 cost : Int
 from_ : List (List UInt8)
 to_ : List UInt8
deriving DecidableEq
structure Side where
 letters : List (List UInt8)
 rules : List R
def rulesFrom (k : Int) : Nat → List Rw.Rule → List R
 | _,[] => []
 | i,r :: l =>
  if r.script = k then
   match Sc.lets k r.from_ with
   | some f => ⟨i,r.cost,f,r.to_⟩ :: rulesFrom k (i + 1) l
   | none => rulesFrom k (i + 1) l
  else rulesFrom k (i + 1) l
def side (t : List Rw.Rule) (k : Int) (word : List UInt8) : Option Side :=
 match Sc.lets k word with
 | none => none
 | some _ =>
  match Sc.lets k (Sc.fold word) with
  | none => none
  | some l => some ⟨l,rulesFrom k 0 t⟩
def fits (letters : List (List UInt8)) (r : R) (at_ : Nat) : Bool :=
 decide (at_ + r.from_.length ≤ letters.length) && decide ((letters.drop at_).take r.from_.length = r.from_)
structure St where
 i : Nat
 j : Nat
 ahead : List UInt8
 right : Bool
deriving DecidableEq
structure Ws where
 left : Side
 right : Side
def zero : St := ⟨0,0,[],false⟩
def done (w : Ws) (s : St) : Bool := decide (s.i = w.left.letters.length) && decide (s.j = w.right.letters.length) && s.ahead.isEmpty
def byLeft (w : Ws) (s : St) : Bool := s.right || (s.ahead.isEmpty && decide (s.i < w.left.letters.length))
def nextOf (left : Bool) (s : St) (r : R) : Option St :=
 let i := if left then s.i + r.from_.length else s.i
 let j := if left then s.j else s.j + r.from_.length
 if r.to_.isPrefixOf s.ahead then some ⟨i,j,s.ahead.drop r.to_.length,s.right && !(s.ahead.drop r.to_.length).isEmpty⟩
 else if s.ahead.isPrefixOf r.to_ then some ⟨i,j,r.to_.drop s.ahead.length,!left⟩
 else none
def one (w : Ws) (s : St) : Side := if byLeft w s then w.left else w.right
def at_ (w : Ws) (s : St) : Nat := if byLeft w s then s.i else s.j
def move (w : Ws) (s : St) (r : R) : Option (R × St) :=
 if fits (one w s).letters r (at_ w s) then (nextOf (byLeft w s) s r).map (fun n => (r,n)) else none
def moves (w : Ws) (s : St) : List (R × St) := (one w s).rules.filterMap (move w s)
def costF (w : Ws) : Nat → St → Int
 | 0,_ => endless
 | n + 1,s => (moves w s).foldl (fun h p => min h (p.1.cost + costF w n p.2)) (if done w s then 0 else endless)
def meas (w : Ws) (s : St) : Nat := (w.left.letters.length - s.i) + (w.right.letters.length - s.j)
def cost (w : Ws) (s : St) : Int := costF w (meas w s + 1) s
structure Side.Good (S : Side) : Prop where
 some_ : ∀ r ∈ S.rules,r.from_ ≠ []
 cost : ∀ r ∈ S.rules,0 ≤ r.cost ∧ r.cost ≤ 1000
 index : S.rules.Pairwise (fun a b => a.index < b.index)
structure Ws.Good (w : Ws) : Prop where
 left : w.left.Good
 right : w.right.Good
variable {w : Ws} {s s' : St} {r : R}
theorem Ws.Good.one (h : w.Good) (s : St) : (Al.one w s).Good := by
 unfold Al.one; split
 ·exact h.left
 ·exact h.right
theorem mem_moves : (r,s') ∈ moves w s ↔ r ∈ (one w s).rules ∧ fits (one w s).letters r (at_ w s) = true ∧ nextOf (byLeft w s) s r = some s' := by
 unfold moves
 rw [List.mem_filterMap]
 constructor
 ·rintro ⟨q,hq,h⟩
  unfold move at h
  split at h
  ·rename_i hf
   cases hn : nextOf (byLeft w s) s q with
   | none => rw [hn] at h; cases h
   | some n => rw [hn] at h; cases h; exact ⟨hq,hf,hn⟩
  ·cases h
 ·rintro ⟨h1,h2,h3⟩
  exact ⟨r,h1,by unfold move; rw [if_pos h2,h3]; rfl⟩
theorem nextOf_ij {l : Bool} (h : nextOf l s r = some s') : s'.i = (if l then s.i + r.from_.length else s.i) ∧ s'.j = (if l then s.j else s.j + r.from_.length) := by
 unfold nextOf at h
 simp only at h
 split at h
 ·cases h; exact ⟨rfl,rfl⟩
 ·split at h
  ·cases h; exact ⟨rfl,rfl⟩
  ·cases h
theorem fits_le {l : List (List UInt8)} {k : Nat} (h : fits l r k = true) : k + r.from_.length ≤ l.length := by
 unfold fits at h
 rw [Bool.and_eq_true,decide_eq_true_eq] at h
 exact h.1
def Within (w : Ws) (s : St) : Prop := s.i ≤ w.left.letters.length ∧ s.j ≤ w.right.letters.length ∧ (s.right = true → s.ahead ≠ [])
theorem within_zero : Within w zero := ⟨Nat.zero_le _,Nat.zero_le _,by simp [zero]⟩
theorem move_step (hw : w.Good) (h : (r,s') ∈ moves w s) (hs : Within w s) : Within w s' ∧ meas w s' < meas w s ∧ (s.i < s'.i ↔ byLeft w s = true) := by
 obtain ⟨h1,h2,h3⟩ := mem_moves.1 h
 have hn := (hw.one s).some_ r h1
 have hn' : 0 < r.from_.length := List.length_pos_iff.2 hn
 have hle := fits_le h2
 obtain ⟨a,b⟩ := nextOf_ij h3
 obtain ⟨u1,u2,u3⟩ := hs
 have hr : s'.right = true → s'.ahead ≠ [] := by
  unfold nextOf at h3
  simp only at h3
  split at h3
  ·cases h3; simp
  ·split at h3
   ·rename_i hp hq
    cases h3
    intro _ he
    simp only [List.drop_eq_nil_iff] at he
    rw [List.isPrefixOf_iff_prefix] at hq
    have := hq.eq_of_length_le he
    rw [← this] at hp
    simp at hp
   ·cases h3
 unfold Within meas
 unfold one at_ at hle
 cases hb : byLeft w s with
 | true =>
  rw [hb] at a b hle
  simp only [if_pos] at a b hle
  refine ⟨⟨by omega,by omega,hr⟩,by omega,by simp; omega⟩
 | false =>
  rw [hb] at a b hle
  simp only [Bool.false_eq_true,if_false] at a b hle
  refine ⟨⟨by omega,by omega,hr⟩,by omega,by simp; omega⟩
theorem foldl_congr_mem {α β : Type} {f g : β → α → β} : ∀ {l : List α} {b : β},(∀ b,∀ a ∈ l,f b a = g b a) → l.foldl f b = l.foldl g b
 | [],_,_ => rfl
 | x :: l,b,h => by
  rw [List.foldl_cons,List.foldl_cons,h b x List.mem_cons_self]
  exact foldl_congr_mem (fun b a ha => h b a (List.mem_cons_of_mem _ ha))
theorem costF_stable (hw : w.Good) : ∀ (n m : Nat) (s : St),Within w s → meas w s < n → meas w s < m → costF w n s = costF w m s
 | 0,_,_,_,h,_ => by omega
 | _,0,_,_,_,h => by omega
 | n + 1,m + 1,s,hs,h1,h2 => by
  unfold costF
  refine foldl_congr_mem (fun b p hp => ?_)
  obtain ⟨r,s'⟩ := p
  obtain ⟨a,b',_⟩ := move_step hw hp hs
  rw [costF_stable hw n m s' a (by omega) (by omega)]
def least (w : Ws) (l : List (R × St)) (h : Int) : Int := l.foldl (fun h p => min h (p.1.cost + cost w p.2)) h
def start (w : Ws) (s : St) : Int := if done w s then 0 else endless
theorem cost_eq (hw : w.Good) (hs : Within w s) : cost w s = least w (moves w s) (start w s) := by
 unfold cost least start
 rw [costF]
 refine foldl_congr_mem (fun b p hp => ?_)
 obtain ⟨r,s'⟩ := p
 obtain ⟨a,b',_⟩ := move_step hw hp hs
 show min b (r.cost + costF w (meas w s) s') = min b (r.cost + costF w (meas w s' + 1) s')
 rw [costF_stable hw _ _ s' a b' (Nat.lt_succ_self _)]
theorem least_le : ∀ (l : List (R × St)) (h : Int),least w l h ≤ h
 | [],_ => Int.le_refl _
 | p :: l,h => by
  unfold least
  rw [List.foldl_cons]
  exact Int.le_trans (least_le l _) (Int.min_le_left _ _)
theorem least_mem : ∀ (l : List (R × St)) (h : Int),(r,s') ∈ l → least w l h ≤ r.cost + cost w s'
 | p :: l,h,hm => by
  unfold least
  rw [List.foldl_cons]
  rcases List.mem_cons.1 hm with rfl | hm
  ·exact Int.le_trans (least_le l _) (Int.min_le_right _ _)
  ·exact least_mem l _ hm
theorem least_is : ∀ (l : List (R × St)) (h : Int),least w l h = h ∨ ∃ p ∈ l,least w l h = p.1.cost + cost w p.2
 | [],_ => .inl rfl
 | p :: l,h => by
  have e : least w (p :: l) h = least w l (min h (p.1.cost + cost w p.2)) := by unfold least; rw [List.foldl_cons]
  rw [e]
  rcases least_is l (min h (p.1.cost + cost w p.2)) with h1 | ⟨q,hq,h1⟩
  ·rw [h1]
   rcases Int.le_total h (p.1.cost + cost w p.2) with h2 | h2
   ·exact .inl (Int.min_eq_left h2)
   ·exact .inr ⟨p,List.mem_cons_self,Int.min_eq_right h2⟩
  ·exact .inr ⟨q,List.mem_cons_of_mem _ hq,h1⟩
theorem cost_le (hw : w.Good) (hs : Within w s) : cost w s ≤ endless := by
 rw [cost_eq hw hs]
 refine Int.le_trans (least_le _ _) ?_
 unfold start endless
 split <;> omega
theorem cost_nonneg (hw : w.Good) : ∀ (n : Nat) (s : St),meas w s ≤ n → Within w s → 0 ≤ cost w s := by
 intro n
 induction n with
 | zero =>
  intro s hn hs
  rw [cost_eq hw hs]
  rcases least_is (w := w) (moves w s) (start w s) with h | ⟨⟨r,s'⟩,hp,h⟩
  ·rw [h]; unfold start endless; split <;> omega
  ·obtain ⟨_,b,_⟩ := move_step hw hp hs; omega
 | succ n ih =>
  intro s hn hs
  rw [cost_eq hw hs]
  rcases least_is (w := w) (moves w s) (start w s) with h | ⟨⟨r,s'⟩,hp,h⟩
  ·rw [h]; unfold start endless; split <;> omega
  ·obtain ⟨a,b,_⟩ := move_step hw hp hs
   have := ih s' (by omega) a
   have := ((hw.one s).cost r (mem_moves.1 hp).1).1
   rw [h]; simp only; omega
/-! ## Lists of rules that rewrite a word -/
def written (S : Side) : Nat → List Int → Option (List UInt8 × Int)
 | k,[] => if k = S.letters.length then some ([],0) else none
 | k,i :: l =>
  match S.rules.find? (fun r => (r.index : Int) == i) with
  | none => none
  | some r => if fits S.letters r k then (written S (k + r.from_.length) l).map (fun p => (r.to_ ++ p.1,r.cost + p.2)) else none
theorem written_cons {S : Side} {k : Nat} {i : Int} {l : List Int} {f : List UInt8} {c : Int} (h : written S k (i :: l) = some (f,c)) :
  ∃ r f' c',S.rules.find? (fun r => (r.index : Int) == i) = some r ∧ r ∈ S.rules ∧ fits S.letters r k = true ∧ written S (k + r.from_.length) l = some (f',c') ∧ f = r.to_ ++ f' ∧ c = r.cost + c' := by
 unfold written at h
 split at h
 ·cases h
 ·rename_i r hr
  split at h
  ·rename_i hf
   cases hw : written S (k + r.from_.length) l with
   | none => rw [hw] at h; cases h
   | some p => rw [hw] at h; cases h; exact ⟨r,p.1,p.2,hr,List.mem_of_find?_eq_some hr,hf,hw,rfl,rfl⟩
  ·cases h
theorem written_nil {S : Side} {k : Nat} {f : List UInt8} {c : Int} (h : written S k [] = some (f,c)) : k = S.letters.length ∧ f = [] ∧ c = 0 := by
 unfold written at h
 split at h
 ·rename_i hk; cases h; exact ⟨hk,rfl,rfl⟩
 ·cases h
def Rel (s : St) (f g : List UInt8) : Prop := if s.right then f = s.ahead ++ g else g = s.ahead ++ f
theorem complete (hw : w.Good) : ∀ (n : Nat) (s : St) (dl dr : List Int) (f g : List UInt8) (m k : Int),dl.length + dr.length ≤ n → Within w s → written w.left s.i dl = some (f,m) → written w.right s.j dr = some (g,k) → Rel s f g → cost w s ≤ m + k := by
 intro n
 induction n with
 | zero =>
  intro s dl dr f g m k hn hs hl hr hrel
  obtain rfl : dl = [] := List.length_eq_zero_iff.1 (by omega)
  obtain rfl : dr = [] := List.length_eq_zero_iff.1 (by omega)
  obtain ⟨e1,rfl,rfl⟩ := written_nil hl
  obtain ⟨e2,rfl,rfl⟩ := written_nil hr
  have ha : s.ahead = [] := by
   unfold Rel at hrel
   split at hrel <;> simpa using hrel.symm
  rw [cost_eq hw hs]
  refine Int.le_trans (least_le _ _) ?_
  unfold start done
  rw [ha,decide_eq_true e1,decide_eq_true e2]; simp
 | succ n ih =>
  intro s dl dr f g m k hn hs hl hr hrel
  cases hb : byLeft w s with
  | true =>
   have hone : one w s = w.left := by unfold one; rw [hb]; rfl
   have hat : at_ w s = s.i := by unfold at_; rw [hb]; rfl
   cases dl with
   | nil =>
    exfalso
    obtain ⟨e1,rfl,rfl⟩ := written_nil hl
    unfold byLeft at hb
    unfold Rel at hrel
    cases hsr : s.right with
    | true =>
     rw [hsr] at hrel
     simp only [if_pos] at hrel
     have := hs.2.2 hsr
     exact this (List.append_eq_nil_iff.1 hrel.symm).1
    | false =>
     rw [hsr] at hb
     simp at hb
     omega
   | cons i dl =>
    obtain ⟨r,f',c',hfi,hmem,hfit,hl',rfl,rfl⟩ := written_cons hl
    have key : ∃ s',nextOf true s r = some s' ∧ Rel s' f' g := by
     unfold Rel at hrel
     unfold nextOf
     simp only [if_pos]
     cases hp : r.to_.isPrefixOf s.ahead with
     | true =>
      rw [if_pos rfl]
      refine ⟨_,rfl,?_⟩
      obtain ⟨q,hq⟩ := List.isPrefixOf_iff_prefix.1 hp
      unfold Rel
      simp only
      rw [← hq,List.drop_left]
      cases hsr : s.right with
      | true =>
       rw [hsr] at hrel
       simp only [if_pos] at hrel
       rw [← hq,List.append_assoc,List.append_cancel_left_eq] at hrel
       cases q with
       | nil => simp at hrel ⊢; exact hrel.symm
       | cons x q => simpa using hrel
      | false =>
       rw [hsr] at hrel
       simp only [Bool.false_eq_true,if_false] at hrel
       unfold byLeft at hb
       rw [hsr] at hb
       simp at hb
       have h1 := hq.trans hb.1
       simp at h1
       rw [h1.2]
       rw [hb.1,h1.1] at hrel
       simpa using hrel
     | false =>
      rw [if_neg (by simp)]
      have hpre : s.ahead <+: r.to_ := by
       cases hsr : s.right with
       | true =>
        rw [hsr] at hrel
        simp only [if_pos] at hrel
        rcases List.prefix_or_prefix_of_prefix (show s.ahead <+: r.to_ ++ f' from ⟨g,hrel.symm⟩) (List.prefix_append _ _) with h | h
        ·exact h
        ·rw [List.isPrefixOf_iff_prefix.2 h] at hp; cases hp
       | false =>
        unfold byLeft at hb
        rw [hsr] at hb
        simp at hb
        rw [hb.1]; exact List.nil_prefix
      rw [if_pos (List.isPrefixOf_iff_prefix.2 hpre)]
      refine ⟨_,rfl,?_⟩
      obtain ⟨q,hq⟩ := hpre
      unfold Rel
      simp only [Bool.not_true,Bool.false_eq_true,if_false]
      rw [← hq,List.drop_left]
      cases hsr : s.right with
      | true =>
       rw [hsr] at hrel
       simp only [if_pos] at hrel
       rw [← hq,List.append_assoc,List.append_cancel_left_eq] at hrel
       exact hrel.symm
      | false =>
       rw [hsr] at hrel
       simp only [Bool.false_eq_true,if_false] at hrel
       unfold byLeft at hb
       rw [hsr] at hb
       simp at hb
       rw [hb.1] at hrel hq
       rw [hrel,← hq]; simp
    obtain ⟨s',hn',hrel'⟩ := key
    have hm : (r,s') ∈ moves w s := mem_moves.2 ⟨by rw [hone]; exact hmem,by rw [hone,hat]; exact hfit,by rw [hb]; exact hn'⟩
    obtain ⟨hs',_,_⟩ := move_step hw hm hs
    obtain ⟨ei,ej⟩ := nextOf_ij hn'
    simp only [if_pos] at ei ej
    have := ih s' dl dr f' g c' k (by simp at hn; omega) hs' (by rw [ei]; exact hl') (by rw [ej]; exact hr) hrel'
    rw [cost_eq hw hs]
    have := least_mem (w := w) (moves w s) (start w s) hm
    omega
  | false =>
   have hone : one w s = w.right := by unfold one; rw [hb]; rfl
   have hat : at_ w s = s.j := by unfold at_; rw [hb]; rfl
   unfold byLeft at hb
   rw [Bool.or_eq_false_iff] at hb
   obtain ⟨hsr,hb2⟩ := hb
   have hrel0 := hrel
   unfold Rel at hrel
   rw [hsr] at hrel
   simp only [Bool.false_eq_true,if_false] at hrel
   cases dr with
   | nil =>
    obtain ⟨e2,rfl,rfl⟩ := written_nil hr
    have ha := (List.append_eq_nil_iff.1 hrel.symm).1
    rw [ha] at hb2
    simp at hb2
    cases dl with
    | nil =>
     exact ih s [] [] f [] m 0 (by simp) hs hl hr hrel0
    | cons i dl =>
     exfalso
     obtain ⟨r,f',c',hfi,hmem,hfit,hl',_,_⟩ := written_cons hl
     have := fits_le hfit
     have := List.length_pos_iff.2 (hw.left.some_ r hmem)
     omega
   | cons i dr =>
    obtain ⟨r,g',c',hfi,hmem,hfit,hr',rfl,rfl⟩ := written_cons hr
    have key : ∃ s',nextOf false s r = some s' ∧ Rel s' f g' := by
     unfold nextOf
     simp only [Bool.false_eq_true,if_false]
     cases hp : r.to_.isPrefixOf s.ahead with
     | true =>
      rw [if_pos rfl]
      refine ⟨_,rfl,?_⟩
      obtain ⟨q,hq⟩ := List.isPrefixOf_iff_prefix.1 hp
      unfold Rel
      simp only [hsr,Bool.false_and,Bool.false_eq_true,if_false]
      rw [← hq,List.drop_left]
      rw [← hq,List.append_assoc,List.append_cancel_left_eq] at hrel
      exact hrel
     | false =>
      rw [if_neg (by simp)]
      have hpre : s.ahead <+: r.to_ := by
       rcases List.prefix_or_prefix_of_prefix (show s.ahead <+: r.to_ ++ g' from ⟨f,hrel.symm⟩) (List.prefix_append _ _) with h | h
       ·exact h
       ·rw [List.isPrefixOf_iff_prefix.2 h] at hp; cases hp
      rw [if_pos (List.isPrefixOf_iff_prefix.2 hpre)]
      refine ⟨_,rfl,?_⟩
      obtain ⟨q,hq⟩ := hpre
      unfold Rel
      simp only [Bool.not_false,if_pos]
      rw [← hq,List.drop_left]
      rw [← hq,List.append_assoc,List.append_cancel_left_eq] at hrel
      exact hrel.symm
    obtain ⟨s',hn',hrel'⟩ := key
    have hb : byLeft w s = false := by unfold byLeft; rw [hsr,hb2]; rfl
    have hm : (r,s') ∈ moves w s := mem_moves.2 ⟨by rw [hone]; exact hmem,by rw [hone,hat]; exact hfit,by rw [hb]; exact hn'⟩
    obtain ⟨hs',_,_⟩ := move_step hw hm hs
    obtain ⟨ei,ej⟩ := nextOf_ij hn'
    simp only [Bool.false_eq_true,if_false] at ei ej
    have := ih s' dl dr f g' m c' (by simp at hn ⊢; omega) hs' (by rw [ei]; exact hl) (by rw [ej]; exact hr') hrel'
    rw [cost_eq hw hs]
    have := least_mem (w := w) (moves w s) (start w s) hm
    omega
end Al
namespace Al
variable {w : Ws} {s s' : St} {r : R}
def pick (w : Ws) (s : St) : Option (R × St) := (moves w s).find? (fun p => p.1.cost + cost w p.2 == cost w s)
def path (w : Ws) : Nat → St → List (Bool × R)
 | 0,_ => []
 | n + 1,s =>
  if done w s then []
  else match pick w s with
   | none => []
   | some (r,s') => (decide (s.i < s'.i),r) :: path w n s'
def lefts (l : List (Bool × R)) : List R := (l.filter (fun p => p.1)).map (fun p => p.2)
def rights (l : List (Bool × R)) : List R := (l.filter (fun p => !p.1)).map (fun p => p.2)
def ints (l : List R) : List Int := l.map (fun r => (r.index : Int))
def form (l : List R) : List UInt8 := l.flatMap R.to_
theorem pick_some (hw : w.Good) (hs : Within w s) (hc : cost w s < endless) (hd : done w s = false) : ∃ p,pick w s = some p ∧ p ∈ moves w s ∧ p.1.cost + cost w p.2 = cost w s := by
 have h := cost_eq hw hs
 rcases least_is (w := w) (moves w s) (start w s) with h1 | ⟨p,hp,h1⟩
 ·exfalso
  rw [h1] at h
  unfold start at h
  rw [hd] at h
  simp at h
  omega
 ·cases hf : pick w s with
  | none =>
   unfold pick at hf
   rw [List.find?_eq_none] at hf
   exact absurd (by rw [h,h1]; simp) (hf p hp)
  | some q =>
   refine ⟨q,rfl,List.mem_of_find?_eq_some hf,?_⟩
   simpa using List.find?_some hf
structure D where
 cost : Int
 left : List Int
 right : List Int
 form : List UInt8
deriving DecidableEq
def best (w : Ws) : D × Int :=
 if endless ≤ cost w zero then (⟨0,[],[],[]⟩,11)
 else (let p := path w (meas w zero + 1) zero; ⟨cost w zero,ints (lefts p),ints (rights p),form (lefts p)⟩,0)
def check (w : Ws) (d : D) : Bool :=
 match written w.left 0 d.left,written w.right 0 d.right with
 | some (f,m),some (g,n) => decide (f = d.form) && decide (g = d.form) && decide (m + n = d.cost)
 | _,_ => false
theorem check_iff {d : D} : check w d = true ↔ ∃ m n,written w.left 0 d.left = some (d.form,m) ∧ written w.right 0 d.right = some (d.form,n) ∧ m + n = d.cost := by
 unfold check
 constructor
 ·intro h
  split at h
  ·rename_i f m g n e1 e2
   rw [Bool.and_eq_true,Bool.and_eq_true,decide_eq_true_eq,decide_eq_true_eq,decide_eq_true_eq] at h
   obtain ⟨⟨rfl,h2⟩,h3⟩ := h
   exact ⟨m,n,e1,by rw [e2,h2],h3⟩
  ·cases h
 ·rintro ⟨m,n,e1,e2,e3⟩
  rw [e1,e2]
  simp [e3]
theorem written_cost {S : Side} (hS : S.Good) : ∀ (l : List Int) (k : Nat) (f : List UInt8) (c : Int),written S k l = some (f,c) → 0 ≤ c ∧ k + l.length ≤ S.letters.length ∧ c ≤ 1000 * l.length
 | [],k,f,c,h => by obtain ⟨h1,_,rfl⟩ := written_nil h; simp; omega
 | i :: l,k,f,c,h => by
  obtain ⟨r,f',c',hfi,hmem,hfit,hl',rfl,rfl⟩ := written_cons h
  obtain ⟨a,b,d⟩ := written_cost hS l _ _ _ hl'
  have := hS.cost r hmem
  have := List.length_pos_iff.2 (hS.some_ r hmem)
  simp only [List.length_cons]
  refine ⟨by omega,by omega,by omega⟩
structure Ws.Small (w : Ws) : Prop where
 left : w.left.letters.length ≤ 12
 right : w.right.letters.length ≤ 12
theorem cheapest (hw : w.Good) (hsm : w.Small) {d : D} (h : check w d = true) : (best w).2 = 0 ∧ (best w).1.cost ≤ d.cost := by
 obtain ⟨m,n,h1,h2,h3⟩ := check_iff.1 h
 obtain ⟨_,a2,a3⟩ := written_cost hw.left _ _ _ _ h1
 obtain ⟨_,b2,b3⟩ := written_cost hw.right _ _ _ _ h2
 have hc := complete hw _ zero d.left d.right d.form d.form m n (Nat.le_refl _) within_zero h1 h2 (by unfold Rel zero; simp)
 have := hsm.left
 have := hsm.right
 have : ¬ endless ≤ cost w zero := by unfold endless; omega
 unfold best
 rw [if_neg this]
 exact ⟨rfl,by simp only; omega⟩
def Ws.swap (w : Ws) : Ws := ⟨w.right,w.left⟩
def D.swap (d : D) : D := ⟨d.cost,d.right,d.left,d.form⟩
end Al
namespace Fo
open Al (R fits)
section
variable {L : List (List UInt8)} {rs : List R}
inductive Re (L : List (List UInt8)) (rs : List R) : Nat → List UInt8 → Int → Prop
 | nil : Re L rs L.length [] 0
 | cons {i : Nat} {r : R} {f : List UInt8} {c : Int} : r ∈ rs → fits L r i = true → Re L rs (i + r.from_.length) f c → Re L rs i (r.to_ ++ f) (r.cost + c)
inductive Pre (L : List (List UInt8)) (rs : List R) : Nat → List UInt8 → Int → Prop
 | nil : Pre L rs 0 [] 0
 | snoc {i : Nat} {r : R} {f : List UInt8} {c : Int} : Pre L rs i f c → r ∈ rs → fits L r i = true → Pre L rs (i + r.from_.length) (f ++ r.to_) (c + r.cost)
theorem Pre.join {i : Nat} {f : List UInt8} {c : Int} (h : Pre L rs i f c) : ∀ {g : List UInt8} {d : Int},Re L rs i g d → Re L rs 0 (f ++ g) (c + d) := by
 induction h with
 | nil => intro g d hg; simpa using hg
 | snoc hp hr hf ih =>
  intro g d hg
  have := ih (Re.cons hr hf hg)
  rw [List.append_assoc,Int.add_assoc]
  exact this
theorem fits_le {r : R} {i : Nat} (h : fits L r i = true) : i + r.from_.length ≤ L.length := Al.fits_le h
theorem Re.le {i : Nat} {f : List UInt8} {c : Int} (h : Re L rs i f c) : i ≤ L.length := by
 induction h with
 | nil => exact Nat.le_refl _
 | cons hr hf h ih => have := fits_le hf; omega
theorem Pre.le {i : Nat} {f : List UInt8} {c : Int} (h : Pre L rs i f c) : i ≤ L.length := by
 cases h with
 | nil => exact Nat.zero_le _
 | snoc hp hr hf => exact fits_le hf
structure Good (rs : List R) : Prop where
 some_ : ∀ r ∈ rs,0 < r.from_.length
 cost : ∀ r ∈ rs,0 ≤ r.cost ∧ r.cost ≤ 1000
theorem Re.cost (hg : Good rs) {i : Nat} {f : List UInt8} {c : Int} (h : Re L rs i f c) : 0 ≤ c ∧ c ≤ 1000 * ((L.length : Int) - i) := by
 induction h with
 | nil => omega
 | cons hr hf h ih =>
  have h1 := hg.cost _ hr
  have h2 := hg.some_ _ hr
  have h3 := fits_le hf
  omega
theorem Pre.cost (hg : Good rs) {i : Nat} {f : List UInt8} {c : Int} (h : Pre L rs i f c) : 0 ≤ c ∧ c ≤ 1000 * (i : Int) := by
 induction h with
 | nil => omega
 | snoc hp hr hf ih =>
  have h1 := hg.cost _ hr
  have h2 := hg.some_ _ hr
  omega
def Least (P : Int → Prop) (c : Int) : Prop := P c ∧ ∀ d,P d → c ≤ d
theorem Least.uniq {P : Int → Prop} {c d : Int} (h : Least P c) (g : Least P d) : c = d := Int.le_antisymm (h.2 _ g.1) (g.2 _ h.1)
theorem least_of {P : Int → Prop} (h0 : ∀ c,P c → 0 ≤ c) : ∀ (n : Nat) (c : Int),c.toNat ≤ n → P c → ∃ d,Least P d ∧ d ≤ c
 | 0,c,hn,hc => ⟨c,⟨hc,fun d hd => by have := h0 d hd; have := h0 c hc; omega⟩,Int.le_refl _⟩
 | n + 1,c,hn,hc => by
  by_cases h : ∃ d,P d ∧ d < c
  ·obtain ⟨d,hd,hlt⟩ := h
   have h1 := h0 d hd
   obtain ⟨e,he,hle⟩ := least_of h0 n d (by omega) hd
   exact ⟨e,he,by omega⟩
  ·exact ⟨c,⟨hc,fun d hd => by
    apply Classical.byContradiction
    intro hno
    exact h ⟨d,hd,by omega⟩⟩,Int.le_refl _⟩
def LeastAt (L : List (List UInt8)) (rs : List R) (i : Nat) (f : List UInt8) : Int → Prop := Least fun c => Re L rs i f c
def LeastTo (L : List (List UInt8)) (rs : List R) (i : Nat) : Int → Prop := Least fun c => ∃ f,Pre L rs i f c
theorem LeastAt.some_ (hg : Good rs) {i : Nat} {f : List UInt8} {c : Int} (h : Re L rs i f c) : ∃ d,LeastAt L rs i f d ∧ d ≤ c :=
 least_of (fun _d hd => (hd.cost hg).1) c.toNat c (Nat.le_refl _) h
theorem LeastTo.some_ (hg : Good rs) {i : Nat} {f : List UInt8} {c : Int} (h : Pre L rs i f c) : ∃ d,LeastTo L rs i d ∧ d ≤ c :=
 least_of (P := fun c => ∃ f,Pre L rs i f c) (fun _d ⟨_,hd⟩ => (hd.cost hg).1) c.toNat c (Nat.le_refl _) ⟨f,h⟩
def EndAt (L : List (List UInt8)) (rs : List R) (most : Int) (i : Nat) (B : Int) (f : List UInt8) (c : Int) : Prop := LeastAt L rs i f c ∧ B + c ≤ most
theorem EndAt.step (_hg : Good rs) {most : Int} {i : Nat} {B : Int} {f : List UInt8} {c : Int} (hB : LeastTo L rs i B) (hi : i < L.length) (h : EndAt L rs most i B f c) :
  ∃ (r : R) (g : List UInt8) (d : Int),r ∈ rs ∧ fits L r i = true ∧ f = r.to_ ++ g ∧ c = r.cost + d ∧ LeastAt L rs (i + r.from_.length) g d ∧ ∀ B',LeastTo L rs (i + r.from_.length) B' → EndAt L rs most (i + r.from_.length) B' g d := by
 obtain ⟨⟨h1,h2⟩,h3⟩ := h
 generalize hi' : i = i' at h1 h2
 cases h1 with
 | nil => omega
 | @cons _ r g d hr hf h1 =>
  subst hi'
  have hl : LeastAt L rs (i + r.from_.length) g d := ⟨h1,fun e he => by have := h2 _ (Re.cons hr hf he); omega⟩
  refine ⟨r,g,d,hr,hf,rfl,rfl,hl,fun B' hB' => ⟨hl,?_⟩⟩
  obtain ⟨⟨p,hp⟩,-⟩ := hB
  have := hB'.2 _ ⟨_,Pre.snoc hp hr hf⟩
  omega
/-! ### lists of forms -/
def Many (L : List (List UInt8)) (rs : List R) (most : Int) : Prop := ∃ fs : List (List UInt8),fs.Nodup ∧ 1000 < fs.length ∧ ∀ f ∈ fs,∃ c,Re L rs 0 f c ∧ c ≤ most
structure Forms (lt : List UInt8 → List UInt8 → Prop) (L : List (List UInt8)) (rs : List R) (most : Int) (out : List (List UInt8)) (costs : List Int) : Prop where
 order : out.Pairwise lt
 len : costs.length = out.length
 few : out.length ≤ 1000
 cost : ∀ (k : Nat) (f : List UInt8) (c : Int),out[k]? = some f → costs[k]? = some c → LeastAt L rs 0 f c ∧ c ≤ most
 all : ∀ (f : List UInt8) (c : Int),Re L rs 0 f c → c ≤ most → f ∈ out
theorem ordered_same {lt : List UInt8 → List UInt8 → Prop} (hi : ∀ a,¬ lt a a) (ha : ∀ a b,lt a b → ¬ lt b a) : ∀ {l m : List (List UInt8)},l.Pairwise lt → m.Pairwise lt → (∀ x,x ∈ l ↔ x ∈ m) → l = m
 | [],[],_,_,_ => rfl
 | [],y :: m,_,_,h => by have := (h y).2 List.mem_cons_self; cases this
 | x :: l,[],_,_,h => by have := (h x).1 List.mem_cons_self; cases this
 | x :: l,y :: m,h1,h2,h => by
  rw [List.pairwise_cons] at h1 h2
  have exy : x = y := by
   rcases List.mem_cons.1 ((h x).1 List.mem_cons_self) with e | hx
   ·exact e
   ·rcases List.mem_cons.1 ((h y).2 List.mem_cons_self) with e | hy
    ·exact e.symm
    ·exact absurd (h2.1 x hx) (ha _ _ (h1.1 y hy))
  subst exy
  rw [ordered_same hi ha h1.2 h2.2 fun z => ?_]
  constructor
  ·intro hz
   rcases List.mem_cons.1 ((h z).1 (List.mem_cons_of_mem _ hz)) with e | hz'
   ·subst e; exact absurd (h1.1 z hz) (hi z)
   ·exact hz'
  ·intro hz
   rcases List.mem_cons.1 ((h z).2 (List.mem_cons_of_mem _ hz)) with e | hz'
   ·subst e; exact absurd (h2.1 z hz) (hi z)
   ·exact hz'
variable {lt : List UInt8 → List UInt8 → Prop} {most : Int} {out out' : List (List UInt8)} {costs costs' : List Int}
theorem Forms.mem_iff (h : Forms lt L rs most out costs) (_hg : Good rs) (f : List UInt8) : f ∈ out ↔ ∃ c,LeastAt L rs 0 f c ∧ c ≤ most := by
 constructor
 ·intro hf
  obtain ⟨k,hk⟩ := List.mem_iff_getElem?.1 hf
  obtain ⟨c,hc⟩ : ∃ c,costs[k]? = some c := ⟨_,List.getElem?_eq_getElem (by rw [h.len]; exact (List.getElem?_eq_some_iff.1 hk).1)⟩
  exact ⟨c,h.cost k f c hk hc⟩
 ·rintro ⟨c,hc,hm⟩
  exact h.all f c hc.1 hm
theorem Forms.uniq (hi : ∀ a,¬ lt a a) (ha : ∀ a b,lt a b → ¬ lt b a) (hg : Good rs) (h : Forms lt L rs most out costs) (h' : Forms lt L rs most out' costs') : out = out' ∧ costs = costs' := by
 have e : out = out' := ordered_same hi ha h.order h'.order fun f => (h.mem_iff hg f).trans (h'.mem_iff hg f).symm
 subst e
 refine ⟨rfl,?_⟩
 apply List.ext_getElem?
 intro k
 by_cases hk : k < out.length
 ·obtain ⟨f,hf⟩ : ∃ f,out[k]? = some f := ⟨_,List.getElem?_eq_getElem hk⟩
  obtain ⟨c,hc⟩ : ∃ c,costs[k]? = some c := ⟨_,List.getElem?_eq_getElem (by rw [h.len]; exact hk)⟩
  obtain ⟨c',hc'⟩ : ∃ c,costs'[k]? = some c := ⟨_,List.getElem?_eq_getElem (by rw [h'.len]; exact hk)⟩
  rw [hc,hc',(h.cost k f c hf hc).1.uniq (h'.cost k f c' hf hc').1]
 ·rw [List.getElem?_eq_none (by rw [h.len]; omega),List.getElem?_eq_none (by rw [h'.len]; omega)]
theorem Many.mono {m' : Int} (h : Many L rs most) (hm : most ≤ m') : Many L rs m' := by
 obtain ⟨fs,hn,hl,hf⟩ := h
 refine ⟨fs,hn,hl,fun f h1 => ?_⟩
 obtain ⟨c,h2,h3⟩ := hf f h1
 exact ⟨c,h2,by omega⟩
theorem Re.more {rs' : List R} (hs : ∀ r ∈ rs,∃ r' ∈ rs',r'.cost = r.cost ∧ r'.from_ = r.from_ ∧ r'.to_ = r.to_) {i : Nat} {f : List UInt8} {c : Int} (h : Re L rs i f c) : Re L rs' i f c := by
 induction h with
 | nil => exact Re.nil
 | cons hr hf h ih =>
  obtain ⟨r',h1,h2,h3,h4⟩ := hs _ hr
  rw [← h2,← h4]
  refine Re.cons h1 ?_ (by rw [h3]; exact ih)
  unfold fits at hf ⊢
  rw [h3]
  exact hf
end
end Fo
namespace Fo
open Al (R fits)
def inf : Int := 2147483647
structure Stp where
 to_ : List UInt8
 cost : Int
 next : Nat
def stp (i : Nat) (r : R) : Stp := ⟨r.to_,r.cost,i + r.from_.length⟩
def steps (L : List (List UInt8)) (rs : List R) (i : Nat) : List Stp := (rs.filter fun r => fits L r i).map (stp i)
section
variable {L : List (List UInt8)} {rs : List R}
theorem steps_mem {i : Nat} {s : Stp} (h : s ∈ steps L rs i) : ∃ r ∈ rs,fits L r i = true ∧ s = stp i r := by
 obtain ⟨r,hr,e⟩ := List.mem_map.1 h
 obtain ⟨h1,h2⟩ := List.mem_filter.1 hr
 exact ⟨r,h1,h2,e.symm⟩
theorem mem_steps {i : Nat} {r : R} (h : r ∈ rs) (hf : fits L r i = true) : stp i r ∈ steps L rs i := List.mem_map_of_mem (List.mem_filter.2 ⟨h,hf⟩)
theorem steps_fits {i : Nat} {s : Stp} (hg : Good rs) (h : s ∈ steps L rs i) : i < s.next ∧ s.next ≤ L.length ∧ 0 ≤ s.cost ∧ s.cost ≤ 1000 := by
 obtain ⟨r,h1,h2,rfl⟩ := steps_mem h
 have := hg.some_ r h1
 have := hg.cost r h1
 have := fits_le h2
 unfold stp
 simp only
 omega
/-! ### the least costs up to each place -/
def Last (L : List (List UInt8)) (rs : List R) (i : Nat) (qs : List R) (j : Nat) (c : Int) : Prop :=
 (j = 0 ∧ c = 0) ∨ ∃ i' r f d,((i' < i ∧ r ∈ rs) ∨ (i' = i ∧ r ∈ qs)) ∧ Pre L rs i' f d ∧ fits L r i' = true ∧ j = i' + r.from_.length ∧ c = d + r.cost
theorem Last.pre {i : Nat} {qs : List R} (hq : ∀ r ∈ qs,r ∈ rs) {j : Nat} {c : Int} (h : Last L rs i qs j c) : ∃ f,Pre L rs j f c := by
 rcases h with ⟨rfl,rfl⟩ | ⟨i',r,f,d,h1,h2,h3,rfl,rfl⟩
 ·exact ⟨_,Pre.nil⟩
 ·exact ⟨_,Pre.snoc h2 (by rcases h1 with ⟨_,h⟩ | ⟨_,h⟩; exact h; exact hq r h) h3⟩
theorem Pre.last (hg : Good rs) {i : Nat} {qs : List R} {j : Nat} {f : List UInt8} {c : Int} (h : Pre L rs j f c) (hj : j ≤ i) : Last L rs i qs j c := by
 cases h with
 | nil => exact .inl ⟨rfl,rfl⟩
 | snoc hp hr hf =>
  have := hg.some_ _ hr
  exact .inr ⟨_,_,_,_,.inl ⟨by omega,hr⟩,hp,hf,rfl,rfl⟩
structure Bef (L : List (List UInt8)) (rs : List R) (i : Nat) (qs : List R) (B : List Int) : Prop where
 len : B.length = L.length + 1
 sub : ∀ r ∈ qs,r ∈ rs
 at_ : ∀ j b,B[j]? = some b → (b = inf ∧ ∀ c,¬ Last L rs i qs j c) ∨ Least (Last L rs i qs j) b
theorem Bef.bound (hg : Good rs) (hL : L.length ≤ 1000) {i : Nat} {qs : List R} {B : List Int} (h : Bef L rs i qs B) {j : Nat} {b : Int} (hb : B[j]? = some b) : 0 ≤ b ∧ b ≤ inf := by
 rcases h.at_ j b hb with ⟨rfl,-⟩ | ⟨h1,-⟩
 ·unfold inf; omega
 ·obtain ⟨f,hf⟩ := h1.pre h.sub
  have h2 := hf.cost hg
  have h3 := hf.le
  unfold inf
  omega
theorem Bef.start : Bef L rs 0 [] (0 :: List.replicate L.length inf) := by
 refine ⟨by simp,fun r hr => by (cases hr),fun j b hb => ?_⟩
 have hl : ∀ j c,Last L rs 0 [] j c ↔ j = 0 ∧ c = 0 := by
  intro j c
  constructor
  ·rintro (h | ⟨i',r,f,d,h1,-⟩)
   ·exact h
   ·rcases h1 with ⟨h,_⟩ | ⟨_,h⟩
    ·omega
    ·cases h
  ·exact fun h => .inl h
 cases j with
 | zero =>
  simp at hb
  subst hb
  exact .inr ⟨(hl 0 0).2 ⟨rfl,rfl⟩,fun d hd => by have := (hl 0 d).1 hd; omega⟩
 | succ j =>
  have hb' : b = inf := by
   rw [List.getElem?_cons_succ,List.getElem?_replicate] at hb
   split at hb
   ·cases hb; rfl
   ·cases hb
  exact .inl ⟨hb',fun c hc => by have := (hl _ _).1 hc; omega⟩
theorem Bef.next {i : Nat} {B : List Int} (h : Bef L rs i rs B) : Bef L rs (i + 1) [] B := by
 have hl : ∀ j c,Last L rs (i + 1) [] j c ↔ Last L rs i rs j c := by
  intro j c
  constructor
  ·rintro (h | ⟨i',r,f,d,h1,h2⟩)
   ·exact .inl h
   ·refine .inr ⟨i',r,f,d,?_,h2⟩
    rcases h1 with ⟨h3,h4⟩ | ⟨_,h⟩
    ·by_cases e : i' = i
     ·exact .inr ⟨e,h4⟩
     ·exact .inl ⟨by omega,h4⟩
    ·cases h
  ·rintro (h | ⟨i',r,f,d,h1,h2⟩)
   ·exact .inl h
   ·refine .inr ⟨i',r,f,d,.inl ?_,h2⟩
    rcases h1 with ⟨h3,h4⟩ | ⟨h3,h4⟩
    ·exact ⟨by omega,h4⟩
    ·exact ⟨by omega,h4⟩
 refine ⟨h.len,fun r hr => by (cases hr),fun j b hb => ?_⟩
 have e : Last L rs (i + 1) [] j = Last L rs i rs j := funext fun c => propext (hl j c)
 rw [e]
 exact h.at_ j b hb
theorem Bef.skip {i : Nat} {qs : List R} {B : List Int} {r : R} (h : Bef L rs i qs B) (hr : r ∈ rs) (hf : fits L r i = false) : Bef L rs i (qs ++ [r]) B := by
 have hl : ∀ j c,Last L rs i (qs ++ [r]) j c ↔ Last L rs i qs j c := by
  intro j c
  constructor
  ·rintro (h | ⟨i',q,f,d,h1,h2,h3,h4⟩)
   ·exact .inl h
   ·refine .inr ⟨i',q,f,d,?_,h2,h3,h4⟩
    rcases h1 with hm | ⟨rfl,hm⟩
    ·exact .inl hm
    ·rcases List.mem_append.1 hm with hm | hm
     ·exact .inr ⟨rfl,hm⟩
     ·rw [List.mem_singleton.1 hm,hf] at h3; cases h3
  ·rintro (h | ⟨i',q,f,d,h1,h2⟩)
   ·exact .inl h
   ·refine .inr ⟨i',q,f,d,?_,h2⟩
    rcases h1 with h | ⟨e,h⟩
    ·exact .inl h
    ·exact .inr ⟨e,List.mem_append_left _ h⟩
 refine ⟨h.len,fun q hq => ?_,fun j b hb => ?_⟩
 ·rcases List.mem_append.1 hq with hq | hq
  ·exact h.sub q hq
  ·rw [List.mem_singleton.1 hq]; exact hr
 ·have e : Last L rs i (qs ++ [r]) j = Last L rs i qs j := funext fun c => propext (hl j c)
  rw [e]
  exact h.at_ j b hb
theorem Bef.here (hg : Good rs) {i : Nat} {qs : List R} {B : List Int} (h : Bef L rs i qs B) {b : Int} (hb : B[i]? = some b) : (b = inf ∧ ∀ f c,¬ Pre L rs i f c) ∨ LeastTo L rs i b := by
 rcases h.at_ i b hb with ⟨e,h1⟩ | ⟨h1,h2⟩
 ·exact .inl ⟨e,fun f c hp => h1 c (hp.last hg (Nat.le_refl _))⟩
 ·exact .inr ⟨h1.pre h.sub,fun d ⟨f,hd⟩ => h2 d (hd.last hg (Nat.le_refl _))⟩
theorem Bef.step (hg : Good rs) (hL : L.length ≤ 1000) {i : Nat} {qs : List R} {B : List Int} {r : R} (h : Bef L rs i qs B) (hr : r ∈ rs) (hf : fits L r i = true) {b b2 : Int} (hb : B[i]? = some b) (hb2 : B[i + r.from_.length]? = some b2) :
  Bef L rs i (qs ++ [r]) (B.set (i + r.from_.length) (min b2 (b + r.cost))) := by
 have hs : ∀ q ∈ qs ++ [r],q ∈ rs := fun q hq => by
  rcases List.mem_append.1 hq with hq | hq
  ·exact h.sub q hq
  ·rw [List.mem_singleton.1 hq]; exact hr
 have hc := hg.cost r hr
 have hl : ∀ j c,Last L rs i (qs ++ [r]) j c ↔ Last L rs i qs j c ∨ (j = i + r.from_.length ∧ ∃ f d,Pre L rs i f d ∧ c = d + r.cost) := by
  intro j c
  constructor
  ·rintro (h | ⟨i',q,f,d,h1,h2,h3,h4,h5⟩)
   ·exact .inl (.inl h)
   ·rcases h1 with hm | ⟨rfl,hm⟩
    ·exact .inl (.inr ⟨i',q,f,d,.inl hm,h2,h3,h4,h5⟩)
    ·rcases List.mem_append.1 hm with hm | hm
     ·exact .inl (.inr ⟨i',q,f,d,.inr ⟨rfl,hm⟩,h2,h3,h4,h5⟩)
     ·rw [List.mem_singleton.1 hm] at h4 h5
      exact .inr ⟨h4,f,d,h2,h5⟩
  ·rintro ((h | ⟨i',q,f,d,h1,h2⟩) | ⟨h1,f,d,h2,h3⟩)
   ·exact .inl h
   ·refine .inr ⟨i',q,f,d,?_,h2⟩
    rcases h1 with h | ⟨e,h⟩
    ·exact .inl h
    ·exact .inr ⟨e,List.mem_append_left _ h⟩
   ·exact .inr ⟨i,r,f,d,.inr ⟨rfl,List.mem_append_right _ List.mem_cons_self⟩,h2,hf,h1,h3⟩
 refine ⟨by rw [List.length_set]; exact h.len,hs,fun j x hx => ?_⟩
 by_cases hj : i + r.from_.length = j
 ·subst hj
  have hlt := (List.getElem?_eq_some_iff.1 hb2).1
  rw [List.getElem?_set_self hlt] at hx
  cases hx
  have hbnd := h.bound hg hL hb2
  rcases h.here hg hb with ⟨rfl,hno⟩ | ⟨⟨f,hp⟩,hle⟩
  ·have e : min b2 (inf + r.cost) = b2 := by omega
   have e2 : Last L rs i (qs ++ [r]) (i + r.from_.length) = Last L rs i qs (i + r.from_.length) := funext fun c => propext ((hl _ c).trans ⟨fun h => by
    rcases h with h | ⟨_,f,d,h,_⟩
    ·exact h
    ·exact absurd h (hno f d),.inl⟩)
   rw [e,e2]
   exact h.at_ _ _ hb2
  ·right
   rcases h.at_ _ _ hb2 with ⟨rfl,hno⟩ | ⟨h1,h2⟩
   ·have h3 := hp.cost hg
    have h4 := hp.le
    have e : min inf (b + r.cost) = b + r.cost := by unfold inf; omega
    rw [e]
    refine ⟨(hl _ _).2 (.inr ⟨rfl,f,b,hp,rfl⟩),fun d hd => ?_⟩
    rcases (hl _ _).1 hd with hd | ⟨_,f',d',hd',rfl⟩
    ·exact absurd hd (hno d)
    ·have := hle d' ⟨f',hd'⟩; omega
   ·refine ⟨?_,fun d hd => ?_⟩
    ·by_cases hm : b2 ≤ b + r.cost
     ·rw [Int.min_eq_left hm]; exact (hl _ _).2 (.inl h1)
     ·rw [Int.min_eq_right (by omega)]; exact (hl _ _).2 (.inr ⟨rfl,f,b,hp,rfl⟩)
    ·rcases (hl _ _).1 hd with hd | ⟨_,f',d',hd',rfl⟩
     ·have := h2 d hd; omega
     ·have := hle d' ⟨f',hd'⟩; omega
 ·rw [List.getElem?_set_ne hj] at hx
  have e2 : Last L rs i (qs ++ [r]) j = Last L rs i qs j := funext fun c => propext ((hl _ c).trans ⟨fun h => by
   rcases h with h | ⟨e,_⟩
   ·exact h
   ·exact absurd e.symm hj,.inl⟩)
  rw [e2]
  exact h.at_ _ _ hx
theorem Bef.all (hg : Good rs) {B : List Int} (h : Bef L rs L.length [] B) {j : Nat} {b : Int} (hj : j ≤ L.length) (hb : B[j]? = some b) : (b = inf ∧ ∀ f c,¬ Pre L rs j f c) ∨ LeastTo L rs j b := by
 rcases h.at_ j b hb with ⟨e,h1⟩ | ⟨h1,h2⟩
 ·exact .inl ⟨e,fun f c hp => h1 c (hp.last hg hj)⟩
 ·exact .inr ⟨h1.pre h.sub,fun d ⟨f,hd⟩ => h2 d (hd.last hg hj)⟩
theorem LeastTo.lt_inf (hg : Good rs) (hL : L.length ≤ 1000) {i : Nat} {b : Int} (h : LeastTo L rs i b) : 0 ≤ b ∧ b < inf := by
 obtain ⟨⟨f,hf⟩,-⟩ := h
 have h2 := hf.cost hg
 have h3 := hf.le
 unfold inf
 omega
/-! ### the ends behind each place -/
def Cand (E : Nat → List UInt8 → Option Int) (most b : Int) (ss : List Stp) (f : List UInt8) (c : Int) : Prop := b < inf ∧ ∃ s ∈ ss,∃ g d,E s.next g = some d ∧ f = s.to_ ++ g ∧ c = d + s.cost ∧ b + c ≤ most
def CandW (E : Nat → List UInt8 → Option Int) (most b : Int) (ss : List Stp) (s : Stp) (done : List UInt8 → Bool) (f : List UInt8) (c : Int) : Prop :=
 Cand E most b ss f c ∨ (b < inf ∧ ∃ g d,done g = true ∧ E s.next g = some d ∧ f = s.to_ ++ g ∧ c = d + s.cost ∧ b + c ≤ most)
def Holds (C : List UInt8 → Int → Prop) (F : List UInt8 → Option Int) : Prop := ∀ f c,F f = some c ↔ Least (C f) c
theorem Holds.congr {C C' : List UInt8 → Int → Prop} {F : List UInt8 → Option Int} (h : Holds C F) (hc : ∀ f c,C' f c ↔ C f c) : Holds C' F := by
 have e : C' = C := funext fun f => funext fun c => propext (hc f c)
 rw [e]; exact h
section
variable {E : Nat → List UInt8 → Option Int} {most b : Int} {ss : List Stp} {s : Stp}
end
def EndsOk (L : List (List UInt8)) (rs : List R) (most : Int) (i : Nat) (F : List UInt8 → Option Int) : Prop :=
 if i = L.length then ∀ f c,F f = some c ↔ f = [] ∧ c = 0 else ∀ f c,F f = some c ↔ ∃ B,LeastTo L rs i B ∧ EndAt L rs most i B f c
theorem leastAt_end (hg : Good rs) (f : List UInt8) (c : Int) : LeastAt L rs L.length f c ↔ f = [] ∧ c = 0 := by
 have hr : ∀ f c,Re L rs L.length f c ↔ f = [] ∧ c = 0 := by
  intro f c
  constructor
  ·intro h
   generalize hi : L.length = i at h
   cases h with
   | nil => exact ⟨rfl,rfl⟩
   | cons h1 h2 h3 =>
    have := fits_le h2
    have := hg.some_ _ h1
    omega
  ·rintro ⟨rfl,rfl⟩
   exact Re.nil
 constructor
 ·exact fun h => (hr f c).1 h.1
 ·rintro ⟨rfl,rfl⟩
  exact ⟨(hr _ _).2 ⟨rfl,rfl⟩,fun d hd => by have := ((hr _ _).1 hd).2; omega⟩
theorem EndsOk.least (hg : Good rs) {most : Int} {i : Nat} {F : List UInt8 → Option Int} (h : EndsOk L rs most i F) {f : List UInt8} {c : Int} (hf : F f = some c) : LeastAt L rs i f c := by
 unfold EndsOk at h
 split at h
 ·rename_i e
  subst e
  exact (leastAt_end hg f c).2 ((h f c).1 hf)
 ·obtain ⟨B,-,h1,-⟩ := (h f c).1 hf
  exact h1
theorem cand_re (hg : Good rs) {most b : Int} {i : Nat} {E : Nat → List UInt8 → Option Int} (hE : ∀ j,i < j → j ≤ L.length → EndsOk L rs most j (E j)) {ss : List Stp} (hs : ∀ s ∈ ss,s ∈ steps L rs i) {f : List UInt8} {c : Int} (h : Cand E most b ss f c) : Re L rs i f c ∧ b + c ≤ most := by
 obtain ⟨-,s,h1,g,d,h2,rfl,rfl,h3⟩ := h
 obtain ⟨r,h4,h5,rfl⟩ := steps_mem (hs s h1)
 have h6 := steps_fits hg (hs _ h1)
 refine ⟨?_,h3⟩
 have h7 := ((hE _ h6.1 h6.2.1).least hg h2).1
 have := Re.cons h4 h5 h7
 rwa [Int.add_comm] at this
theorem candW_re (hg : Good rs) {most b : Int} {i : Nat} {E : Nat → List UInt8 → Option Int} (hE : ∀ j,i < j → j ≤ L.length → EndsOk L rs most j (E j)) {ss : List Stp} (hs : ∀ s ∈ ss,s ∈ steps L rs i) {s : Stp} (hs2 : s ∈ steps L rs i) {done : List UInt8 → Bool} {f : List UInt8} {c : Int} (h : CandW E most b ss s done f c) : Re L rs i f c ∧ b + c ≤ most := by
 rcases h with h | ⟨h1,g,d,-,h2⟩
 ·exact cand_re hg hE hs h
 ·exact cand_re hg hE (ss := [s]) (fun x hx => by rw [List.mem_singleton.1 hx]; exact hs2) ⟨h1,s,List.mem_cons_self,g,d,h2⟩
theorem ends_ok (hg : Good rs) (hL : L.length ≤ 1000) {most b : Int} {i : Nat} (hi : i < L.length) {E : Nat → List UInt8 → Option Int} (hE : ∀ j,i < j → j ≤ L.length → EndsOk L rs most j (E j)) (hb : (b = inf ∧ ∀ f c,¬ Pre L rs i f c) ∨ LeastTo L rs i b)
  {F : List UInt8 → Option Int} (hF : Holds (Cand E most b (steps L rs i)) F) : EndsOk L rs most i F := by
 unfold EndsOk
 rw [if_neg (by omega)]
 intro f c
 rw [hF f c]
 rcases hb with ⟨rfl,hno⟩ | hb
 ·constructor
  ·rintro ⟨⟨h,_⟩,_⟩
   exact absurd h (Int.lt_irrefl _)
  ·rintro ⟨B,⟨⟨p,hp⟩,-⟩,-⟩
   exact absurd hp (hno _ _)
 ·have hfwd : ∀ c,EndAt L rs most i b f c → Cand E most b (steps L rs i) f c := by
   intro c h
   obtain ⟨r,g,d,h1,h2,rfl,rfl,h3,h4⟩ := EndAt.step hg hb hi h
   have h5 := steps_fits hg (mem_steps h1 h2)
   obtain ⟨⟨p,hp⟩,-⟩ := id hb
   obtain ⟨B',hB',-⟩ := LeastTo.some_ hg (Pre.snoc hp h1 h2)
   refine ⟨(LeastTo.lt_inf hg hL hb).2,stp i r,mem_steps h1 h2,g,d,?_,rfl,Int.add_comm _ _,h.2⟩
   have h6 := hE _ h5.1 h5.2.1
   unfold EndsOk at h6
   split at h6
   ·rename_i e
    refine (h6 g d).2 ((leastAt_end (L := L) hg g d).1 ?_)
    have e' : i + r.from_.length = L.length := e
    rw [← e']
    exact h3
   ·exact (h6 g d).2 ⟨B',hB',h4 B' hB'⟩
  constructor
  ·rintro ⟨h1,h2⟩
   obtain ⟨h3,h4⟩ := cand_re hg hE (fun s hs => hs) h1
   obtain ⟨c0,h5,h6⟩ := LeastAt.some_ hg h3
   have h7 := h2 c0 (hfwd c0 ⟨h5,by omega⟩)
   have : c0 = c := by omega
   subst this
   exact ⟨b,hb,h5,h4⟩
  ·rintro ⟨B,hB,h1⟩
   have : B = b := hB.uniq hb
   subst this
   refine ⟨hfwd c h1,fun d hd => ?_⟩
   exact h1.1.2 d (cand_re hg hE (fun s hs => hs) hd).1
end
end Fo
namespace Fo
open Al
section
variable {w : Ws}
variable {lt : List UInt8 → List UInt8 → Prop} {most : Int} {l k : List (List UInt8)} {m n : List Int}
def Common (l k : List (List UInt8)) (m n : List Int) (c : Int) : Prop := ∃ (i j : Nat) (f : List UInt8) (a b : Int),l[i]? = some f ∧ k[j]? = some f ∧ m[i]? = some a ∧ n[j]? = some b ∧ c = a + b
end
end Fo
namespace Fo
section
variable {l k : List (List UInt8)} {m n : List Int}
def Seen (l k : List (List UInt8)) (m n : List Int) (i j : Nat) (c : Int) : Prop := ∃ (i' j' : Nat) (f : List UInt8) (a b : Int),i' < i ∧ j' < j ∧ l[i']? = some f ∧ k[j']? = some f ∧ m[i']? = some a ∧ n[j']? = some b ∧ c = a + b
structure Two (l k : List (List UInt8)) (m n : List Int) (i j : Nat) (least : Int) : Prop where
 side : ∀ i' j' f,l[i']? = some f → k[j']? = some f → (i' < i ↔ j' < j)
 least : (least = -1 ∧ ∀ c,¬ Seen l k m n i j c) ∨ (0 ≤ least ∧ Least (Seen l k m n i j) least)
theorem Two.start : Two l k m n 0 0 (-1) := ⟨fun _ _ _ _ _ => by omega,.inl ⟨rfl,fun c ⟨i',_,_,_,_,h,_⟩ => by omega⟩⟩
theorem pair_lt {lt : List UInt8 → List UInt8 → Prop} {l : List (List UInt8)} (h : l.Pairwise lt) {i j : Nat} {a b : List UInt8} (hij : i < j) (ha : l[i]? = some a) (hb : l[j]? = some b) : lt a b := by
 obtain ⟨h1,e1⟩ := List.getElem?_eq_some_iff.1 ha
 obtain ⟨h2,e2⟩ := List.getElem?_eq_some_iff.1 hb
 rw [← e1,← e2]
 exact List.pairwise_iff_getElem.1 h i j h1 h2 hij
theorem Two.same {lt : List UInt8 → List UInt8 → Prop} (hi : ∀ a,¬ lt a a) (hl : l.Pairwise lt) (hk : k.Pairwise lt) {i j : Nat} {least : Int} (h : Two l k m n i j least) {f : List UInt8} {a b : Int} (h1 : l[i]? = some f) (h2 : k[j]? = some f) (h3 : m[i]? = some a) (h4 : n[j]? = some b) (h0 : 0 ≤ a + b) :
  Two l k m n (i + 1) (j + 1) (if least < 0 ∨ a + b < least then a + b else least) := by
 have hs : ∀ c,Seen l k m n (i + 1) (j + 1) c ↔ Seen l k m n i j c ∨ c = a + b := by
  intro c
  constructor
  ·rintro ⟨i',j',g,x,y,e1,e2,e3,e4,e5,e6,rfl⟩
   by_cases hii : i' < i
   ·exact .inl ⟨i',j',g,x,y,hii,(h.side i' j' g e3 e4).1 hii,e3,e4,e5,e6,rfl⟩
   ·obtain rfl : i' = i := by omega
    rw [h1] at e3; cases e3
    by_cases hjj : j' < j
    ·exact absurd ((h.side i' j' f h1 e4).2 hjj) (by omega)
    ·obtain rfl : j' = j := by omega
     rw [h3] at e5; rw [h4] at e6
     cases e5; cases e6
     exact .inr rfl
  ·rintro (⟨i',j',g,x,y,e1,e2,e3⟩ | rfl)
   ·exact ⟨i',j',g,x,y,by omega,by omega,e3⟩
   ·exact ⟨i,j,f,a,b,by omega,by omega,h1,h2,h3,h4,rfl⟩
 refine ⟨fun i' j' g e1 e2 => ?_,?_⟩
 ·have h5 := h.side i' j' g e1 e2
  constructor
  ·intro hlt
   by_cases hii : i' < i
   ·have := h5.1 hii; omega
   ·obtain rfl : i' = i := by omega
    rw [h1] at e1; cases e1
    by_cases hjj : j' = j
    ·omega
    ·exfalso
     rcases Nat.lt_or_gt_of_ne hjj with hq | hq
     ·have := h5.2 hq; omega
     ·exact hi _ (pair_lt hk hq h2 e2)
  ·intro hlt
   by_cases hjj : j' < j
   ·have := h5.2 hjj; omega
   ·obtain rfl : j' = j := by omega
    rw [h2] at e2; cases e2
    by_cases hii : i' = i
    ·omega
    ·exfalso
     rcases Nat.lt_or_gt_of_ne hii with hq | hq
     ·have := h5.1 hq; omega
     ·exact hi _ (pair_lt hl hq h1 e1)
 ·right
  rcases h.least with ⟨rfl,hno⟩ | ⟨h6,h7,h8⟩
  ·rw [if_pos (.inl (by omega))]
   exact ⟨h0,(hs _).2 (.inr rfl),fun d hd => by
    rcases (hs d).1 hd with hd | hd
    ·exact absurd hd (hno d)
    ·omega⟩
  ·by_cases hlt : a + b < least
   ·rw [if_pos (.inr hlt)]
    exact ⟨h0,(hs _).2 (.inr rfl),fun d hd => by
     rcases (hs d).1 hd with hd | hd
     ·have := h8 d hd; omega
     ·omega⟩
   ·rw [if_neg (by omega)]
    exact ⟨h6,(hs _).2 (.inl h7),fun d hd => by
     rcases (hs d).1 hd with hd | hd
     ·exact h8 d hd
     ·omega⟩
theorem Two.left {lt : List UInt8 → List UInt8 → Prop} (hi : ∀ a,¬ lt a a) (ht : ∀ a b c,lt a b → lt b c → lt a c) (hk : k.Pairwise lt) {i j : Nat} {least : Int} (h : Two l k m n i j least) {f g : List UInt8} (h1 : l[i]? = some f) (h2 : k[j]? = some g) (hfg : lt f g) : Two l k m n (i + 1) j least := by
 have hside : ∀ i' j' x,l[i']? = some x → k[j']? = some x → (i' < i + 1 ↔ j' < j) := by
  intro i' j' x e1 e2
  have h5 := h.side i' j' x e1 e2
  by_cases hii : i' = i
  ·subst hii
   rw [h1] at e1; cases e1
   constructor
   ·intro _
    by_cases hjj : j' < j
    ·exact hjj
    ·exfalso
     by_cases he : j' = j
     ·subst he
      rw [h2] at e2; cases e2
      exact hi _ hfg
     ·exact hi _ (ht _ _ _ hfg (pair_lt hk (by omega) h2 e2))
   ·intro hjj; omega
  ·constructor
   ·intro hlt; exact h5.1 (by omega)
   ·intro hjj; have := h5.2 hjj; omega
 have hs : ∀ c,Seen l k m n (i + 1) j c ↔ Seen l k m n i j c := by
  intro c
  constructor
  ·rintro ⟨i',j',x,a,b,e1,e2,e3,e4,e5⟩
   exact ⟨i',j',x,a,b,(h.side i' j' x e3 e4).2 e2,e2,e3,e4,e5⟩
  ·rintro ⟨i',j',x,a,b,e1,e2,e3⟩
   exact ⟨i',j',x,a,b,by omega,e2,e3⟩
 have e : Seen l k m n (i + 1) j = Seen l k m n i j := funext fun c => propext (hs c)
 exact ⟨hside,by rw [e]; exact h.least⟩
theorem Two.right {lt : List UInt8 → List UInt8 → Prop} (hi : ∀ a,¬ lt a a) (ht : ∀ a b c,lt a b → lt b c → lt a c) (hl : l.Pairwise lt) {i j : Nat} {least : Int} (h : Two l k m n i j least) {f g : List UInt8} (h1 : l[i]? = some f) (h2 : k[j]? = some g) (hfg : lt g f) : Two l k m n i (j + 1) least := by
 have hside : ∀ i' j' x,l[i']? = some x → k[j']? = some x → (i' < i ↔ j' < j + 1) := by
  intro i' j' x e1 e2
  have h5 := h.side i' j' x e1 e2
  by_cases hjj : j' = j
  ·subst hjj
   rw [h2] at e2; cases e2
   constructor
   ·intro hii; omega
   ·intro _
    by_cases hii : i' < i
    ·exact hii
    ·exfalso
     by_cases he : i' = i
     ·subst he
      rw [h1] at e1; cases e1
      exact hi _ hfg
     ·exact hi _ (ht _ _ _ hfg (pair_lt hl (by omega) h1 e1))
  ·constructor
   ·intro hii; have := h5.1 hii; omega
   ·intro hlt; exact h5.2 (by omega)
 have hs : ∀ c,Seen l k m n i (j + 1) c ↔ Seen l k m n i j c := by
  intro c
  constructor
  ·rintro ⟨i',j',x,a,b,e1,e2,e3,e4,e5⟩
   exact ⟨i',j',x,a,b,e1,(h.side i' j' x e3 e4).1 e1,e3,e4,e5⟩
  ·rintro ⟨i',j',x,a,b,e1,e2,e3⟩
   exact ⟨i',j',x,a,b,e1,by omega,e3⟩
 have e : Seen l k m n i (j + 1) = Seen l k m n i j := funext fun c => propext (hs c)
 exact ⟨hside,by rw [e]; exact h.least⟩
theorem Two.done {i j : Nat} {least : Int} (h : Two l k m n i j least) (he : l.length ≤ i ∨ k.length ≤ j) : (least = -1 ∧ ∀ c,¬ Common l k m n c) ∨ Least (Common l k m n) least := by
 have hs : ∀ c,Common l k m n c ↔ Seen l k m n i j c := by
  intro c
  constructor
  ·rintro ⟨i',j',f,a,b,e1,e2,e3⟩
   have h1 := (List.getElem?_eq_some_iff.1 e1).1
   have h2 := (List.getElem?_eq_some_iff.1 e2).1
   have h5 := h.side i' j' f e1 e2
   rcases he with he | he
   ·have := h5.1 (by omega)
    exact ⟨i',j',f,a,b,by omega,this,e1,e2,e3⟩
   ·have := h5.2 (by omega)
    exact ⟨i',j',f,a,b,this,by omega,e1,e2,e3⟩
  ·rintro ⟨i',j',f,a,b,-,-,e⟩
   exact ⟨i',j',f,a,b,e⟩
 have e : Common l k m n = Seen l k m n i j := funext fun c => propext (hs c)
 rw [e]
 rcases h.least with h1 | ⟨-,h1⟩
 ·exact .inl h1
 ·exact .inr h1
end
end Fo
namespace Fo
open Al (R fits)
section
variable {L : List (List UInt8)} {rs rs' : List R} {lt : List UInt8 → List UInt8 → Prop} {most m' : Int} {out out' : List (List UInt8)} {costs costs' : List Int}
def Alike (L : List (List UInt8)) (rs rs' : List R) : Prop := ∀ (i : Nat) (f : List UInt8) (c : Int),Re L rs i f c ↔ Re L rs' i f c
theorem Alike.symm (h : Alike L rs rs') : Alike L rs' rs := fun i f c => (h i f c).symm
theorem Alike.least (h : Alike L rs rs') {i : Nat} {f : List UInt8} {c : Int} (hl : LeastAt L rs i f c) : LeastAt L rs' i f c := ⟨(h i f c).1 hl.1,fun d hd => hl.2 d ((h i f d).2 hd)⟩
theorem Alike.forms (h : Alike L rs rs') (hf : Forms lt L rs most out costs) : Forms lt L rs' most out costs :=
 ⟨hf.order,hf.len,hf.few,fun k f c h1 h2 => ⟨h.least (hf.cost k f c h1 h2).1,(hf.cost k f c h1 h2).2⟩,fun f c h1 h2 => hf.all f c ((h 0 f c).2 h1) h2⟩
theorem Alike.many (h : Alike L rs rs') (hm : Many L rs most) : Many L rs' most := by
 obtain ⟨fs,h1,h2,h3⟩ := hm
 exact ⟨fs,h1,h2,fun f hf => by obtain ⟨c,h4,h5⟩ := h3 f hf; exact ⟨c,(h 0 f c).1 h4,h5⟩⟩
theorem Forms.more (hs : ∀ r ∈ rs,∃ r' ∈ rs',r'.cost = r.cost ∧ r'.from_ = r.from_ ∧ r'.to_ = r.to_) (h : Forms lt L rs most out costs) (h' : Forms lt L rs' most out' costs') {i : Nat} {f : List UInt8} {c : Int} (h1 : out[i]? = some f) (h2 : costs[i]? = some c) :
  ∃ (j : Nat) (d : Int),out'[j]? = some f ∧ costs'[j]? = some d ∧ d ≤ c := by
 obtain ⟨h3,h4⟩ := h.cost i f c h1 h2
 obtain ⟨j,hj⟩ := List.mem_iff_getElem?.1 (h'.all f c (h3.1.more hs) h4)
 obtain ⟨d,hd⟩ : ∃ d,costs'[j]? = some d := ⟨_,List.getElem?_eq_getElem (by rw [h'.len]; exact (List.getElem?_eq_some_iff.1 hj).1)⟩
 exact ⟨j,d,hj,hd,(h'.cost j f d hj hd).1.2 c (h3.1.more hs)⟩
theorem Many.more (hs : ∀ r ∈ rs,∃ r' ∈ rs',r'.cost = r.cost ∧ r'.from_ = r.from_ ∧ r'.to_ = r.to_) (hm : Many L rs most) : Many L rs' most := by
 obtain ⟨fs,h1,h2,h3⟩ := hm
 exact ⟨fs,h1,h2,fun f hf => by obtain ⟨c,h4,h5⟩ := h3 f hf; exact ⟨c,h4.more hs,h5⟩⟩
theorem Pre.whole {f : List UInt8} {c : Int} (h : Pre L rs L.length f c) : Re L rs 0 f c := by
 have := h.join Re.nil
 rwa [List.append_nil,Int.add_zero] at this
theorem Re.pre {i : Nat} {g : List UInt8} {d : Int} (h : Re L rs i g d) : ∀ {f : List UInt8} {c : Int},Pre L rs i f c → Pre L rs L.length (f ++ g) (c + d) := by
 induction h with
 | nil => intro f c hp; simpa using hp
 | cons hr hf h ih =>
  intro f c hp
  have := ih (Pre.snoc hp hr hf)
  rwa [List.append_assoc,Int.add_assoc] at this
end
end Fo
