/-
 The lexer's plain law: what a text's tokens are, on lists of bytes; no program in sight. Conditions: none (plain definitions and lemmas on lists).
-/
namespace Lx
def isLetter (c : UInt8) : Bool := (97 ≤ c && c ≤ 122) || (65 ≤ c && c ≤ 90)
def isDigit (c : UInt8) : Bool := 48 ≤ c && c ≤ 57
def isWord (c : UInt8) : Bool := isLetter c || isDigit c || c == 95
def isBlank (c : UInt8) : Bool := c == 32 || c == 9 || c == 10
def isAngle (c : UInt8) : Bool := c == 60 || c == 62
def isPlain (c : UInt8) : Bool := [59,44,46,58,40,41,91,93,123,125,61,43,45].contains c
def inBody (c : UInt8) : Bool := c != 34 && c != 10
structure Tk where
 kind : Nat
 n : Nat
 text : List UInt8
 deriving DecidableEq
def Tk.width (t : Tk) : Nat := if t.kind = 3 then t.text.length + 2 else t.text.length
def Tk.written (t : Tk) : List UInt8 := if t.kind = 3 then 34 :: (t.text ++ [34]) else t.text
def skip : Bool → List UInt8 → List UInt8
 | _,[] => []
 | false,c :: s => if isBlank c then skip false s else if c = 35 then skip true s else c :: s
 | true,c :: s => if c = 10 then skip false s else skip true s
def value (d : List UInt8) : Nat := d.foldl (fun n c => 10 * n + (c.toNat - 48)) 0
def nextTok (c : UInt8) (s : List UInt8) : Except Nat Tk :=
 if isLetter c then
  if ((c :: s).takeWhile isWord).length > 24 then .error 2 else .ok ⟨1,0,(c :: s).takeWhile isWord⟩
 else if isDigit c then
  if ((c :: s).takeWhile isDigit).length > 13 || ((c :: s).dropWhile isDigit).head?.any (fun x => isLetter x || x == 95) then .error 4
  else .ok ⟨2,value ((c :: s).takeWhile isDigit),(c :: s).takeWhile isDigit⟩
 else if c = 34 then
  match s.dropWhile inBody with
  | [] => .error 6
  | q :: _ => if q = 10 then .error 6 else if (s.takeWhile inBody).length > 400 then .error 2 else .ok ⟨3,0,s.takeWhile inBody⟩
 else if (c = 33 ∨ isAngle c) ∧ s.head? = some 61 then .ok ⟨4,0,[c,61]⟩
 else if isAngle c ∨ isPlain c then .ok ⟨4,0,[c]⟩
 else .error 3
abbrev Res := Except (Nat × Nat) (List (Nat × Tk))
def shift (i : Nat) (l : List (Nat × Tk)) : List (Nat × Tk) := l.map fun p => (i + p.1,p.2)
def shiftR (i : Nat) (acc : List (Nat × Tk)) : Res → Res
 | .error (e,o) => .error (e,i + o)
 | .ok l => .ok (acc ++ shift i l)
def lexN : Nat → Nat → List UInt8 → Res
 | 0,_,_ => .ok []
 | f + 1,cnt,s =>
  match skip false s with
  | [] => .ok []
  | c :: r =>
   match nextTok c r with
   | .error e => .error (e,s.length - (r.length + 1))
   | .ok t => if cnt = 5000 then .error (2,s.length - (r.length + 1)) else
     shiftR (s.length - (r.length + 1) + t.width) [(s.length - (r.length + 1),t)] (lexN f (cnt + 1) ((c :: r).drop t.width))
def lx (cnt : Nat) (s : List UInt8) : Res := lexN (s.length + 1) cnt s
def lex (s : List UInt8) : List (Nat × Tk) × Int × Int :=
 if s.length > 20000 then ([],2,-1) else
 match lx 0 s with
 | .error (e,o) => ([],e,o)
 | .ok l => (l,0,0)
/-! ### gaps -/
theorem skip_length (b : Bool) (s : List UInt8) : (skip b s).length ≤ s.length := by
 induction s generalizing b with
 | nil => cases b <;> simp [skip]
 | cons c s ih =>
  cases b <;> simp only [skip] <;> (repeat' split) <;> simp <;> first | exact Nat.le_succ_of_le (ih _) | skip
def gapHead (c : UInt8) : Bool := isBlank c || c == 35
theorem skip_head {b : Bool} {s : List UInt8} {c : UInt8} {r : List UInt8} (h : skip b s = c :: r) : gapHead c = false := by
 induction s generalizing b with
 | nil => cases b <;> simp [skip] at h
 | cons d s ih =>
  cases b
  ·simp only [skip] at h
   split at h
   ·exact ih h
   ·split at h
    ·exact ih h
    ·rename_i h1 h2
     simp only [List.cons.injEq] at h
     rw [← h.1]
     simp [gapHead,h1,h2]
  ·simp only [skip] at h
   split at h <;> exact ih h
theorem skip_split (b : Bool) (s : List UInt8) : ∃ p,s = p ++ skip b s ∧ skip b p = [] := by
 induction s generalizing b with
 | nil => exact ⟨[],by cases b <;> simp [skip],by cases b <;> simp [skip]⟩
 | cons c s ih =>
  cases b
  ·simp only [skip]
   split
   ·rename_i h1
    obtain ⟨p,h2,h3⟩ := ih false
    exact ⟨c :: p,by rw [List.cons_append,← h2],by simp [skip,h1,h3]⟩
   ·split
    ·rename_i h1 h2
     obtain ⟨p,h3,h4⟩ := ih true
     exact ⟨c :: p,by rw [List.cons_append,← h3],by subst h2; simp [skip,h4,isBlank]⟩
    ·exact ⟨[],rfl,rfl⟩
  ·simp only [skip]
   split
   ·rename_i h1
    obtain ⟨p,h2,h3⟩ := ih false
    exact ⟨c :: p,by rw [List.cons_append,← h2],by simp [skip,h1,h3]⟩
   ·rename_i h1
    obtain ⟨p,h2,h3⟩ := ih true
    exact ⟨c :: p,by rw [List.cons_append,← h2],by simp [skip,h1,h3]⟩
def TokOK (t : Tk) : Prop :=
 (t.kind = 1 ∧ t.n = 0 ∧ t.text.length ≤ 24 ∧ t.text.all isWord = true ∧ ∃ c s,t.text = c :: s ∧ isLetter c = true) ∨
 (t.kind = 2 ∧ t.n = value t.text ∧ t.text.length ≤ 13 ∧ t.text.all isDigit = true ∧ t.text ≠ []) ∨
 (t.kind = 3 ∧ t.n = 0 ∧ t.text.length ≤ 400 ∧ t.text.all inBody = true) ∨
 (t.kind = 4 ∧ t.n = 0 ∧ ∃ c,(t.text = [c,61] ∧ (c = 33 ∨ isAngle c = true)) ∨ (t.text = [c] ∧ (isAngle c = true ∨ isPlain c = true)))
def Good (t : Tk) (r : List UInt8) : Prop :=
 ∀ z,r.head? = some z → (t.kind = 1 → isWord z = false) ∧ (t.kind = 2 → isWord z = false) ∧ (t.kind = 4 → t.text = [60] ∨ t.text = [62] → z ≠ 61)
theorem takeWhile_app_dropWhile (p : UInt8 → Bool) (l : List UInt8) : l.takeWhile p ++ l.dropWhile p = l := List.takeWhile_append_dropWhile
theorem dropWhile_head {p : UInt8 → Bool} {l : List UInt8} {z : UInt8} (h : (l.dropWhile p).head? = some z) : p z = false := by
 induction l with
 | nil => simp at h
 | cons c l ih =>
  rw [List.dropWhile_cons] at h
  split at h
  ·exact ih h
  ·rename_i hc; simp at h; rw [← h]; simpa using hc
theorem all_takeWhile (p : UInt8 → Bool) (l : List UInt8) : (l.takeWhile p).all p = true := by
 induction l with
 | nil => rfl
 | cons c l ih =>
  rw [List.takeWhile_cons]
  split
  ·rename_i h; simp only [List.all_cons,h,ih,Bool.and_self]
  ·rfl
theorem takeWhile_all {p : UInt8 → Bool} {l r : List UInt8} (h : l.all p = true) (hr : ∀ z,r.head? = some z → p z = false) : (l ++ r).takeWhile p = l ∧ (l ++ r).dropWhile p = r := by
 induction l with
 | nil =>
  cases r with
  | nil => exact ⟨rfl,rfl⟩
  | cons z r => have := hr z rfl; simp [this]
 | cons c l ih =>
  simp only [List.all_cons,Bool.and_eq_true] at h
  have := ih h.2
  simp [h.1,this.1,this.2]
theorem word_of_letter {c : UInt8} (h : isLetter c = true) : isWord c = true := by simp [isWord,h]
theorem nextTok_ok {c : UInt8} {s : List UInt8} {t : Tk} (h : nextTok c s = .ok t) : TokOK t ∧ ∃ r,c :: s = t.written ++ r ∧ Good t r := by
 unfold nextTok at h
 split at h
 ·rename_i h1
  split at h
  ·cases h
  ·rename_i h2
   cases h
   refine ⟨.inl ⟨rfl,rfl,Nat.le_of_not_lt h2,all_takeWhile _ _,?_⟩,(c :: s).dropWhile isWord,?_,?_⟩
   ·exact ⟨c,s.takeWhile isWord,by simp [word_of_letter h1],h1⟩
   ·simp only [Tk.written]; exact (takeWhile_app_dropWhile _ _).symm
   ·intro z hz
    exact ⟨fun _ => dropWhile_head hz,fun hk => by simp at hk,fun hk => by simp at hk⟩
 ·split at h
  ·rename_i h1 h2
   split at h
   ·cases h
   ·rename_i h3
    cases h
    simp only [Bool.or_eq_true,decide_eq_true_eq,not_or,Bool.not_eq_true] at h3
    refine ⟨.inr (.inl ⟨rfl,rfl,Nat.le_of_not_lt h3.1,all_takeWhile _ _,by simp [h2]⟩),(c :: s).dropWhile isDigit,?_,?_⟩
    ·simp only [Tk.written]; exact (takeWhile_app_dropWhile _ _).symm
    ·intro z hz
     refine ⟨fun hk => by simp at hk,fun _ => ?_,fun hk => by simp at hk⟩
     have h4 := dropWhile_head hz
     have h5 := h3.2
     rw [hz] at h5
     simp at h5
     simp [isWord,h4,h5]
  ·split at h
   ·rename_i h1 h2 h3
    split at h
    ·cases h
    ·rename_i q r hq
     split at h
     ·cases h
     ·rename_i h4
      split at h
      ·cases h
      ·rename_i h5
       cases h
       have hq' : inBody q = false := dropWhile_head (l := s) (by rw [hq]; rfl)
       have hq2 : q = 34 := by
        simp [inBody] at hq'
        by_cases hh : q = 34
        ·exact hh
        ·exact absurd (hq' hh) h4
       refine ⟨.inr (.inr (.inl ⟨rfl,rfl,Nat.le_of_not_lt h5,all_takeWhile _ _⟩)),r,?_,?_⟩
       ·have := takeWhile_app_dropWhile inBody s
        rw [hq,hq2] at this
        simp only [Tk.written,if_true]
        rw [h3,List.cons_append,List.append_assoc,List.singleton_append,this]
       ·intro z hz
        exact ⟨fun hk => by simp at hk,fun hk => by simp at hk,fun hk => by simp at hk⟩
   ·split at h
    ·rename_i h1 h2 h3 h4
     cases h
     refine ⟨.inr (.inr (.inr ⟨rfl,rfl,c,.inl ⟨rfl,h4.1⟩⟩)),s.tail,?_,?_⟩
     ·cases s with
      | nil => simp at h4
      | cons z s => simp at h4; simp [Tk.written,h4.2]
     ·intro z hz
      exact ⟨fun hk => by simp at hk,fun hk => by simp at hk,fun _ hk => by simp at hk⟩
    ·split at h
     ·rename_i h1 h2 h3 h4 h5
      cases h
      refine ⟨.inr (.inr (.inr ⟨rfl,rfl,c,.inr ⟨rfl,h5⟩⟩)),s,?_,?_⟩
      ·simp [Tk.written]
      ·intro z hz
       refine ⟨fun hk => by simp at hk,fun hk => by simp at hk,fun _ hk => ?_⟩
       intro e
       apply h4
       refine ⟨.inr ?_,by rw [hz,e]⟩
       simp at hk
       rcases hk with hk | hk <;> simp [hk,isAngle]
     ·cases h
theorem nextTok_mk {t : Tk} {c : UInt8} {b r : List UInt8} (ht : TokOK t) (hw : t.written = c :: b) (hr : Good t r) : nextTok c (b ++ r) = .ok t := by
 obtain ⟨k,n,x⟩ := t
 rcases ht with ⟨h1,h2,h3,h4,d,s,h5,h6⟩ | ⟨h1,h2,h3,h4,h5⟩ | ⟨h1,h2,h3,h4⟩ | ⟨h1,h2,d,h3⟩
 ·dsimp only at h1 h2 h3 h4 h5
  subst h1; subst h2
  simp only [Tk.written] at hw
  rw [if_neg (by decide)] at hw
  rw [hw] at h5 h3 h4
  cases h5
  have := takeWhile_all (r := r) h4 (fun z hz => (hr z hz).1 rfl)
  rw [List.cons_append] at this
  unfold nextTok
  rw [if_pos h6,this.1,if_neg (by omega),hw]
 ·dsimp only at h1 h2 h3 h4 h5
  subst h1; subst h2
  simp only [Tk.written] at hw
  rw [if_neg (by decide)] at hw
  rw [hw] at h3 h4
  have hg : ∀ z,r.head? = some z → isWord z = false := fun z hz => (hr z hz).2.1 rfl
  have := takeWhile_all (r := r) h4 (fun z hz => by have := hg z hz; simp [isWord] at this; simp [this])
  rw [List.cons_append] at this
  have hc : isDigit c = true := by simp at h4; exact h4.1
  have hc2 : isLetter c = false := by
   simp [isDigit,isLetter,UInt8.le_iff_toNat_le] at hc ⊢
   omega
  unfold nextTok
  rw [if_neg (by simp [hc2]),if_pos hc,this.1,this.2,if_neg,hw]
  simp only [Bool.or_eq_true,decide_eq_true_eq,not_or,Bool.not_eq_true]
  refine ⟨by omega,?_⟩
  cases r with
  | nil => rfl
  | cons z r => have := hg z rfl; simp [isWord] at this; simp [this]
 ·dsimp only at h1 h2 h3 h4
  subst h1; subst h2
  simp only [Tk.written,if_true,List.cons.injEq] at hw
  obtain ⟨rfl,rfl⟩ := hw
  have := takeWhile_all (r := 34 :: r) h4 (fun z hz => by simp at hz; rw [← hz]; decide)
  unfold nextTok
  rw [if_neg (by decide),if_neg (by decide),if_pos rfl,List.append_assoc,List.singleton_append,this.1,this.2]
  simp only
  rw [if_neg (by decide),if_neg (by omega)]
 ·dsimp only at h1 h2 h3
  subst h1; subst h2
  simp only [Tk.written] at hw
  rw [if_neg (by decide)] at hw
  subst hw
  rcases h3 with ⟨h3,h4⟩ | ⟨h3,h4⟩
  ·simp only [List.cons.injEq] at h3
   obtain ⟨rfl,rfl⟩ := h3
   have h5 : isLetter c = false ∧ isDigit c = false ∧ c ≠ 34 := by
    rcases h4 with rfl | h4
    ·decide
    ·simp [isAngle] at h4
     rcases h4 with rfl | rfl <;> decide
   unfold nextTok
   rw [if_neg (by simp [h5]),if_neg (by simp [h5]),if_neg h5.2.2,if_pos ⟨h4,rfl⟩]
  ·simp only [List.cons.injEq] at h3
   obtain ⟨rfl,rfl⟩ := h3
   have h5 : isLetter c = false ∧ isDigit c = false ∧ c ≠ 34 ∧ c ≠ 33 := by
    rcases h4 with h4 | h4
    ·simp [isAngle] at h4
     rcases h4 with rfl | rfl <;> decide
    ·simp [isPlain] at h4
     rcases h4 with h | h | h | h | h | h | h | h | h | h | h | h | h <;> subst h <;> decide
   unfold nextTok
   rw [if_neg (by simp [h5]),if_neg (by simp [h5]),if_neg h5.2.2.1,if_neg,if_pos h4]
   ·rintro ⟨h6,h7⟩
    rcases h6 with h6 | h6
    ·exact h5.2.2.2 h6
    ·simp [isAngle] at h6
     have h8 := (hr 61 h7).2.2 rfl
     rcases h6 with rfl | rfl
     ·exact h8 (.inl rfl) rfl
     ·exact h8 (.inr rfl) rfl
theorem TokOK.cons {t : Tk} (h : TokOK t) : ∃ c b,t.written = c :: b ∧ gapHead c = false := by
 obtain ⟨k,n,x⟩ := t
 rcases h with ⟨h1,_,_,_,d,s,h5,h6⟩ | ⟨h1,_,_,h4,h5⟩ | ⟨h1,_,_,_⟩ | ⟨h1,_,d,h3⟩
 ·dsimp only at h1 h5; subst h1; subst h5
  refine ⟨d,s,rfl,?_⟩
  simp [isLetter,UInt8.le_iff_toNat_le] at h6
  simp [gapHead,isBlank,← UInt8.toNat_inj]
  omega
 ·dsimp only at h1 h4 h5; subst h1
  cases x with
  | nil => exact absurd rfl h5
  | cons d s =>
   refine ⟨d,s,rfl,?_⟩
   simp [isDigit,UInt8.le_iff_toNat_le] at h4
   simp [gapHead,isBlank,← UInt8.toNat_inj]
   omega
 ·dsimp only at h1; subst h1
  exact ⟨34,x ++ [34],rfl,by decide⟩
 ·dsimp only at h1 h3; subst h1
  rcases h3 with ⟨rfl,h4⟩ | ⟨rfl,h4⟩
  ·refine ⟨d,[61],rfl,?_⟩
   rcases h4 with rfl | h4
   ·decide
   ·simp [isAngle] at h4
    rcases h4 with rfl | rfl <;> decide
  ·refine ⟨d,[],rfl,?_⟩
   rcases h4 with h4 | h4
   ·simp [isAngle] at h4
    rcases h4 with rfl | rfl <;> decide
   ·simp [isPlain] at h4
    rcases h4 with h | h | h | h | h | h | h | h | h | h | h | h | h <;> subst h <;> decide
theorem written_length (t : Tk) : t.written.length = t.width := by
 unfold Tk.written Tk.width
 split <;> simp
theorem TokOK.width_pos {t : Tk} (h : TokOK t) : 0 < t.width := by
 obtain ⟨c,b,hw,_⟩ := h.cons
 rw [← written_length,hw]
 simp
end Lx
