/-
 Several texts in one: ZLexLaws, ZLexMore, ZLiPure. Conditions: as each law says.
-/
import Derived.Test.YtdghfenbfbdijaaGreatDoorZLexPure
import Derived.Test.YtdghfenbfbdijaaGreatDoorZMPlain
namespace Lx
def luN : Nat → List UInt8 → Res
 | 0,_ => .ok []
 | f + 1,s =>
  match skip false s with
  | [] => .ok []
  | c :: r =>
   match nextTok c r with
   | .error e => .error (e,s.length - (r.length + 1))
   | .ok t => shiftR (s.length - (r.length + 1) + t.width) [(s.length - (r.length + 1),t)] (luN f ((c :: r).drop t.width))
def lu (s : List UInt8) : Res := luN (s.length + 1) s
theorem skip_cons_len {b : Bool} {s : List UInt8} {c : UInt8} {r : List UInt8} (h : skip b s = c :: r) : r.length + 1 ≤ s.length := by
 have := skip_length b s
 rw [h] at this
 simpa using this
theorem next_width {c : UInt8} {s : List UInt8} {t : Tk} (h : nextTok c s = .ok t) : 0 < t.width ∧ t.width ≤ s.length + 1 := by
 obtain ⟨h1,r,h2,_⟩ := nextTok_ok h
 refine ⟨h1.width_pos,?_⟩
 rw [← written_length]
 have := congrArg List.length h2
 simp at this
 omega
theorem luN_fuel : ∀ (f g : Nat) (s : List UInt8),s.length < f → s.length < g → luN f s = luN g s
 | 0,_,_,h,_ => by omega
 | _ + 1,0,_,_,h => by omega
 | f + 1,g + 1,s,hf,hg => by
  unfold luN
  cases hs : skip false s with
  | nil => rfl
  | cons c r =>
   simp only
   cases hn : nextTok c r with
   | error e => rfl
   | ok t =>
    simp only
    have h1 := skip_cons_len hs
    have h2 := next_width hn
    rw [luN_fuel f g _ (by simp; omega) (by simp; omega)]
theorem lu_eq (s : List UInt8) : lu s = match skip false s with
  | [] => .ok []
  | c :: r =>
   match nextTok c r with
   | .error e => .error (e,s.length - (r.length + 1))
   | .ok t => shiftR (s.length - (r.length + 1) + t.width) [(s.length - (r.length + 1),t)] (lu ((c :: r).drop t.width)) := by
 rw [lu,luN]
 cases hs : skip false s with
 | nil => rfl
 | cons c r =>
  simp only
  cases hn : nextTok c r with
  | error e => rfl
  | ok t =>
   simp only
   have h1 := skip_cons_len hs
   have h2 := next_width hn
   rw [lu,luN_fuel s.length _ _ (by simp; omega) (Nat.lt_succ_self _)]
theorem lexN_fuel : ∀ (f g cnt : Nat) (s : List UInt8),s.length < f → s.length < g → lexN f cnt s = lexN g cnt s
 | 0,_,_,_,h,_ => by omega
 | _ + 1,0,_,_,_,h => by omega
 | f + 1,g + 1,cnt,s,hf,hg => by
  unfold lexN
  cases hs : skip false s with
  | nil => rfl
  | cons c r =>
   simp only
   cases hn : nextTok c r with
   | error e => rfl
   | ok t =>
    simp only
    have h1 := skip_cons_len hs
    have h2 := next_width hn
    rw [lexN_fuel f g _ _ (by simp; omega) (by simp; omega)]
theorem lx_eq (cnt : Nat) (s : List UInt8) : lx cnt s = match skip false s with
  | [] => .ok []
  | c :: r =>
   match nextTok c r with
   | .error e => .error (e,s.length - (r.length + 1))
   | .ok t => if cnt = 5000 then .error (2,s.length - (r.length + 1)) else
     shiftR (s.length - (r.length + 1) + t.width) [(s.length - (r.length + 1),t)] (lx (cnt + 1) ((c :: r).drop t.width)) := by
 rw [lx,lexN]
 cases hs : skip false s with
 | nil => rfl
 | cons c r =>
  simp only
  cases hn : nextTok c r with
  | error e => rfl
  | ok t =>
   simp only
   have h1 := skip_cons_len hs
   have h2 := next_width hn
   rw [lx,lexN_fuel s.length _ _ _ (by simp; omega) (Nat.lt_succ_self _)]
theorem lexN_lu : ∀ (f cnt : Nat) (s : List UInt8),s.length < f → cnt + s.length ≤ 5000 → lexN f cnt s = luN f s
 | 0,_,_,h,_ => by omega
 | f + 1,cnt,s,hf,hc => by
  unfold lexN luN
  cases hs : skip false s with
  | nil => rfl
  | cons c r =>
   simp only
   cases hn : nextTok c r with
   | error e => rfl
   | ok t =>
    simp only
    have h1 := skip_cons_len hs
    have h2 := next_width hn
    rw [if_neg (by omega),lexN_lu f _ _ (by simp; omega) (by simp; omega)]
theorem lx_lu {s : List UInt8} (h : s.length ≤ 5000) : lx 0 s = lu s := lexN_lu _ _ _ (Nat.lt_succ_self _) (by omega)
theorem lex_lu {s : List UInt8} (h : s.length ≤ 5000) : lex s = match lu s with | .error (e,o) => ([],(e : Int),(o : Int)) | .ok l => (l,0,0) := by
 rw [lex,if_neg (by omega),lx_lu h]
 cases lu s <;> rfl
/-! ### shifting -/
theorem shift_shift (i j : Nat) (l : List (Nat × Tk)) : shift i (shift j l) = shift (i + j) l := by
 simp [shift,Nat.add_assoc]
theorem shift_zero (l : List (Nat × Tk)) : shift 0 l = l := by
 simp [shift]
theorem shift_append (i : Nat) (l m : List (Nat × Tk)) : shift i (l ++ m) = shift i l ++ shift i m := by simp [shift]
theorem shift_length (i : Nat) (l : List (Nat × Tk)) : (shift i l).length = l.length := by simp [shift]
theorem shift_get (i k : Nat) (l : List (Nat × Tk)) : (shift i l)[k]? = l[k]?.map fun p => (i + p.1,p.2) := by simp [shift]
theorem shiftR_shiftR (i j : Nat) (a b : List (Nat × Tk)) (r : Res) : shiftR i a (shiftR j b r) = shiftR (i + j) (a ++ shift i b) r := by
 cases r <;> simp [shiftR,shift_append,shift_shift,Nat.add_assoc]
theorem shiftR_zero (r : Res) : shiftR 0 [] r = r := by
 cases r <;> simp [shiftR,shift_zero]
/-! ### gaps ahead -/
theorem skip_free (b : Bool) (s : List UInt8) : ∃ p,s = p ++ skip b s ∧ skip b p = [] ∧ (skip b s ≠ [] → ∀ x,gapHead x = false → ∀ y,skip b (p ++ x :: y) = x :: y) := by
 induction s generalizing b with
 | nil => exact ⟨[],by cases b <;> simp [skip],by cases b <;> simp [skip],fun h => by cases b <;> simp [skip] at h⟩
 | cons c s ih =>
  cases b
  ·simp only [skip]
   split
   ·rename_i h1
    obtain ⟨p,h2,h3,h4⟩ := ih false
    exact ⟨c :: p,by rw [List.cons_append,← h2],by simp [skip,h1,h3],fun hn x hx y => by simp [skip,h1,h4 hn x hx y]⟩
   ·rename_i h1
    split
    ·rename_i h2
     obtain ⟨p,h3,h4,h5⟩ := ih true
     exact ⟨c :: p,by rw [List.cons_append,← h3],by subst h2; simp [skip,h4,isBlank],fun hn x hx y => by subst h2; simp [skip,isBlank,h5 hn x hx y]⟩
    ·refine ⟨[],rfl,rfl,fun _ x hx y => ?_⟩
     simp [gapHead] at hx
     simp [skip,hx]
  ·simp only [skip]
   split
   ·rename_i h1
    obtain ⟨p,h2,h3,h4⟩ := ih false
    exact ⟨c :: p,by rw [List.cons_append,← h2],by simp [skip,h1,h3],fun hn x hx y => by simp [skip,h1,h4 hn x hx y]⟩
   ·rename_i h1
    obtain ⟨p,h2,h3,h4⟩ := ih true
    exact ⟨c :: p,by rw [List.cons_append,← h2],by simp [skip,h1,h3],fun hn x hx y => by simp [skip,h1,h4 hn x hx y]⟩
theorem lu_gap {u q : List UInt8} (h : skip false (u ++ q) = skip false q) : lu (u ++ q) = shiftR u.length [] (lu q) := by
 rw [lu_eq,lu_eq q,h]
 cases hs : skip false q with
 | nil => rfl
 | cons c r =>
  have h1 := skip_cons_len hs
  simp only
  cases hn : nextTok c r with
  | error e => simp only [shiftR,List.length_append]; congr 2; omega
  | ok t =>
   simp only
   rw [shiftR_shiftR]
   have e1 : (u ++ q).length - (r.length + 1) = u.length + (q.length - (r.length + 1)) := by simp; omega
   rw [e1]
   simp [shift,Nat.add_assoc]
theorem lu_step {p : List UInt8} {c : UInt8} {r : List UInt8} (h : skip false (p ++ c :: r) = c :: r) : lu (p ++ c :: r) =
  match nextTok c r with
  | .error e => .error (e,p.length)
  | .ok t => shiftR (p.length + t.width) [(p.length,t)] (lu ((c :: r).drop t.width)) := by
 rw [lu_eq,h]
 simp only
 have e1 : (p ++ c :: r).length - (r.length + 1) = p.length := by simp
 rw [e1]
/-! ### P7.4 -/
def endAt (l : List (Nat × Tk)) : Nat → Nat
 | 0 => 0
 | i + 1 => (l[i]?.map fun p => p.1 + p.2.width).getD 0
structure Places (s : List UInt8) (l : List (Nat × Tk)) : Prop where
 ok : ∀ (i : Nat) (p : Nat × Tk),l[i]? = some p → TokOK p.2
 le : ∀ (i : Nat) (p : Nat × Tk),l[i]? = some p → endAt l i ≤ p.1
 fits : ∀ (i : Nat) (p : Nat × Tk),l[i]? = some p → p.1 + p.2.width ≤ s.length
 here : ∀ (i : Nat) (p : Nat × Tk),l[i]? = some p → (s.drop p.1).take p.2.width = p.2.written
 gap : ∀ (i : Nat) (p : Nat × Tk),l[i]? = some p → skip false ((s.drop (endAt l i)).take (p.1 - endAt l i)) = []
 last : endAt l l.length ≤ s.length
 rest : skip false (s.drop (endAt l l.length)) = []
 good : ∀ (i : Nat) (p : Nat × Tk),l[i]? = some p → Good p.2 (s.drop (p.1 + p.2.width))
theorem getElem?_cons_shift (k : Nat) (x : Nat × Tk) (l : List (Nat × Tk)) (i : Nat) (p : Nat × Tk) (h : (x :: shift k l)[i]? = some p) :
  (i = 0 ∧ p = x) ∨ ∃ j q,i = j + 1 ∧ l[j]? = some q ∧ p = (k + q.1,q.2) := by
 cases i with
 | zero => simp at h; exact .inl ⟨rfl,h.symm⟩
 | succ j =>
  simp [shift_get] at h
  obtain ⟨a,b,h1,h2⟩ := h
  exact .inr ⟨j,(a,b),rfl,h1,h2.symm⟩
theorem endAt_cons (k : Nat) (x : Nat × Tk) (l : List (Nat × Tk)) (j : Nat) (hk : k = x.1 + x.2.width) (hj : j ≤ l.length) : endAt (x :: shift k l) (j + 1) = k + endAt l j := by
 cases j with
 | zero => simp [endAt,hk]
 | succ j => simp [endAt,shift_get,List.getElem?_eq_getElem (show j < l.length by omega),Nat.add_assoc]
theorem places : ∀ (n : Nat) (s : List UInt8) (l : List (Nat × Tk)),s.length ≤ n → lu s = .ok l → Places s l := by
 intro n
 induction n with
 | zero =>
  intro s l hn h
  have : s = [] := List.length_eq_zero_iff.1 (by omega)
  subst this
  rw [lu_eq] at h
  cases h
  exact ⟨fun i p hp => by simp at hp,fun i p hp => by simp at hp,fun i p hp => by simp at hp,fun i p hp => by simp at hp,fun i p hp => by simp at hp,Nat.le_refl _,rfl,fun i p hp => by simp at hp⟩
 | succ n ih =>
  intro s l hn h
  obtain ⟨g,h1,h2,h3⟩ := skip_free false s
  cases hs : skip false s with
  | nil =>
   rw [lu_eq,hs] at h
   cases h
   exact ⟨fun i p hp => by simp at hp,fun i p hp => by simp at hp,fun i p hp => by simp at hp,fun i p hp => by simp at hp,fun i p hp => by simp at hp,Nat.zero_le _,by simpa [endAt] using hs,fun i p hp => by simp at hp⟩
  | cons c r =>
   rw [hs] at h1 h3
   have hg : gapHead c = false := skip_head hs
   have h4 := h3 (by simp) c hg
   have hstep := lu_step (h4 r)
   rw [← h1,h] at hstep
   cases hk : nextTok c r with
   | error e => rw [hk] at hstep; cases hstep
   | ok t =>
    rw [hk] at hstep
    simp only at hstep
    have hw := next_width hk
    obtain ⟨hok,r',hr',hgood⟩ := nextTok_ok hk
    have hl : s.length = g.length + (r.length + 1) := by
     have := congrArg List.length h1
     simpa using this
    cases hm : lu ((c :: r).drop t.width) with
    | error x => rw [hm] at hstep; cases hstep
    | ok m =>
     rw [hm] at hstep
     simp only [shiftR,Except.ok.injEq,List.cons_append,List.nil_append] at hstep
     have P := ih _ _ (by simp; omega) hm
     have hd : ∀ k,s.drop (g.length + t.width + k) = ((c :: r).drop t.width).drop k := fun k => by
      conv => lhs; rw [h1]
      rw [List.drop_append,List.drop_eq_nil_of_le (by omega),List.nil_append,List.drop_drop]
      congr 1
      omega
     have hd0 : s.drop (g.length + t.width) = (c :: r).drop t.width := hd 0
     have hdr : (c :: r).drop t.width = r' := by
      rw [hr',← written_length,List.drop_append,List.drop_length,Nat.sub_self]; rfl
     subst hstep
     have hE := fun j hj => endAt_cons (g.length + t.width) (g.length,t) m j rfl hj
     refine ⟨?_,?_,?_,?_,?_,?_,?_,?_⟩
     ·intro i p hp
      rcases getElem?_cons_shift _ _ _ _ _ hp with ⟨rfl,rfl⟩ | ⟨j,q,rfl,hq,rfl⟩
      ·exact hok
      ·exact P.ok j q hq
     ·intro i p hp
      rcases getElem?_cons_shift _ _ _ _ _ hp with ⟨rfl,rfl⟩ | ⟨j,q,rfl,hq,rfl⟩
      ·exact Nat.zero_le _
      ·have hj : j < m.length := (List.getElem?_eq_some_iff.1 hq).1
       rw [hE j (by omega)]
       have := P.le j q hq
       simp only
       omega
     ·intro i p hp
      rcases getElem?_cons_shift _ _ _ _ _ hp with ⟨rfl,rfl⟩ | ⟨j,q,rfl,hq,rfl⟩
      ·simp only; omega
      ·have := P.fits j q hq
       simp at this
       simp only
       omega
     ·intro i p hp
      rcases getElem?_cons_shift _ _ _ _ _ hp with ⟨rfl,rfl⟩ | ⟨j,q,rfl,hq,rfl⟩
      ·simp only
       conv => lhs; rw [h1]
       rw [List.drop_append,List.drop_length,Nat.sub_self,List.nil_append,List.drop_zero,hr',← written_length,List.take_append,List.take_length,Nat.sub_self]
       simp
      ·simp only
       rw [hd]
       exact P.here j q hq
     ·intro i p hp
      rcases getElem?_cons_shift _ _ _ _ _ hp with ⟨rfl,rfl⟩ | ⟨j,q,rfl,hq,rfl⟩
      ·simp only [endAt,List.drop_zero,Nat.sub_zero]
       conv => lhs; rw [h1]
       rw [List.take_append,List.take_length,Nat.sub_self]
       simpa using h2
      ·have hj : j < m.length := (List.getElem?_eq_some_iff.1 hq).1
       rw [hE j (by omega)]
       simp only
       rw [hd,show g.length + t.width + q.1 - (g.length + t.width + endAt m j) = q.1 - endAt m j by omega]
       exact P.gap j q hq
     ·rw [List.length_cons,shift_length,hE _ (Nat.le_refl _)]
      have := P.last
      simp at this
      omega
     ·rw [List.length_cons,shift_length,hE _ (Nat.le_refl _),hd]
      exact P.rest
     ·intro i p hp
      rcases getElem?_cons_shift _ _ _ _ _ hp with ⟨rfl,rfl⟩ | ⟨j,q,rfl,hq,rfl⟩
      ·simp only
       rw [hd0,hdr]
       exact hgood
      ·simp only
       rw [Nat.add_assoc,hd]
       exact P.good j q hq
theorem lu_places {s : List UInt8} {l : List (Nat × Tk)} (h : lu s = .ok l) : Places s l := places _ s l (Nat.le_refl _) h
/-! ### a token at the head -/
theorem skip_nongap {c : UInt8} (h : gapHead c = false) (r : List UInt8) : skip false (c :: r) = c :: r := by
 simp [gapHead] at h
 simp [skip,h]
theorem lu_tok {t : Tk} {r : List UInt8} (ht : TokOK t) (hr : Good t r) : lu (t.written ++ r) = shiftR t.width [(0,t)] (lu r) := by
 obtain ⟨c,b,hw,hg⟩ := ht.cons
 have h1 := nextTok_mk ht hw hr
 rw [hw,List.cons_append]
 have := lu_step (p := []) (c := c) (r := b ++ r) (skip_nongap hg _)
 rw [List.nil_append] at this
 rw [this,h1]
 simp only [List.length_nil,Nat.zero_add]
 have e : (c :: (b ++ r)).drop t.width = r := by
  rw [← List.cons_append,← hw,← written_length,List.drop_append,List.drop_length,Nat.sub_self]; rfl
 rw [e]
theorem Good.nil (t : Tk) : Good t [] := fun z hz => by simp at hz
theorem Good.gap (t : Tk) {z : UInt8} (hz : gapHead z = true) (r : List UInt8) : Good t (z :: r) := by
 intro y hy
 simp at hy
 subst hy
 simp [gapHead,isBlank] at hz
 rcases hz with ((rfl | rfl) | rfl) | rfl <;> exact ⟨fun _ => by decide,fun _ => by decide,fun _ _ => by decide⟩
theorem Good.head {t : Tk} {r q : List UInt8} (h : Good t r) (e : ∀ z,q.head? = some z → r.head? = some z) : Good t q := fun z hz => h z (e z hz)
theorem first {s : List UInt8} {c : UInt8} {r : List UInt8} {t : Tk} (hs : skip false s = c :: r) (hn : nextTok c r = .ok t) :
  ∃ g q,s = g ++ (t.written ++ q) ∧ skip false g = [] ∧ TokOK t ∧ Good t q ∧ (c :: r).drop t.width = q ∧ (∀ y,lu (g ++ (t.written ++ y)) = shiftR g.length [] (lu (t.written ++ y))) := by
 obtain ⟨g,h1,h2,h3⟩ := skip_free false s
 rw [hs] at h1 h3
 have hg : gapHead c = false := skip_head hs
 obtain ⟨hok,q,hq,hgood⟩ := nextTok_ok hn
 refine ⟨g,q,by rw [h1,hq],h2,hok,hgood,?_,?_⟩
 ·rw [hq,← written_length,List.drop_append,List.drop_length,Nat.sub_self]; rfl
 ·intro y
  obtain ⟨c',b,hw,hg'⟩ := hok.cons
  apply lu_gap
  rw [hw,List.cons_append,h3 (by simp) c' hg',skip_nongap hg']
theorem lu_gaps {g : List UInt8} (h : skip false g = []) : lu g = .ok [] := by rw [lu_eq,h]
theorem lu_ok {s : List UInt8} {l : List (Nat × Tk)} (h : lu s = .ok l) : ∀ p ∈ l,TokOK p.2 := by
 intro p hp
 obtain ⟨i,hi⟩ := List.getElem?_of_mem hp
 exact (lu_places h).ok i p hi
/-! ### P7.8 -/
theorem words {name d x : List UInt8} {c : UInt8} {n : Nat} (h1 : TokOK ⟨1,0,name⟩) (h2 : TokOK ⟨4,0,[c]⟩) (h3 : TokOK ⟨2,n,d⟩) (h4 : TokOK ⟨3,0,x⟩) :
  lu (name ++ [c] ++ d ++ [34] ++ x ++ [34]) = .ok [(0,⟨1,0,name⟩),(name.length,⟨4,0,[c]⟩),(name.length + 1,⟨2,n,d⟩),(name.length + 1 + d.length,⟨3,0,x⟩)] := by
 have hc : isWord c = false := by
  rcases h2 with ⟨h,_⟩ | ⟨h,_⟩ | ⟨h,_⟩ | ⟨_,_,c',⟨h,_⟩ | ⟨h,h5⟩⟩
  ·exact absurd h (by simp)
  ·exact absurd h (by simp)
  ·exact absurd h (by simp)
  ·simp at h
  ·simp only [List.cons.injEq,and_true] at h
   subst h
   rcases h5 with h5 | h5
   ·simp [isAngle] at h5
    rcases h5 with rfl | rfl <;> decide
   ·simp [isPlain] at h5
    rcases h5 with h | h | h | h | h | h | h | h | h | h | h | h | h <;> subst h <;> decide
 have hd : ∃ a b,d = a :: b ∧ isDigit a = true := by
  rcases h3 with ⟨h,_⟩ | ⟨_,_,_,h4,h5⟩ | ⟨h,_⟩ | ⟨h,_⟩
  ·exact absurd h (by simp)
  ·dsimp only at h4 h5
   cases d with
   | nil => exact absurd rfl h5
   | cons a b => simp at h4; exact ⟨a,b,rfl,h4.1⟩
  ·exact absurd h (by simp)
  ·exact absurd h (by simp)
 obtain ⟨a,b,hab,ha⟩ := hd
 have ha61 : a ≠ 61 := by intro h; subst h; exact absurd ha (by decide)
 have g1 : Good ⟨1,0,name⟩ ([c] ++ (d ++ (34 :: (x ++ [34])))) := by
  intro z hz
  simp at hz
  subst hz
  exact ⟨fun _ => hc,fun h => absurd h (by simp),fun h => absurd h (by simp)⟩
 have g2 : Good ⟨4,0,[c]⟩ (d ++ (34 :: (x ++ [34]))) := by
  intro z hz
  rw [hab] at hz
  simp at hz
  subst hz
  exact ⟨fun h => absurd h (by simp),fun h => absurd h (by simp),fun _ _ => ha61⟩
 have g3 : Good ⟨2,n,d⟩ (34 :: (x ++ [34])) := by
  intro z hz
  simp at hz
  subst hz
  exact ⟨fun h => absurd h (by simp),fun _ => by decide,fun h => absurd h (by simp)⟩
 have e : name ++ [c] ++ d ++ [34] ++ x ++ [34] = (Tk.mk 1 0 name).written ++ ((Tk.mk 4 0 [c]).written ++ ((Tk.mk 2 n d).written ++ ((Tk.mk 3 0 x).written ++ []))) := by
  simp [Tk.written]
 have w1 : (Tk.mk 4 0 [c]).written = [c] := rfl
 have w2 : (Tk.mk 2 n d).written = d := rfl
 have w3 : (Tk.mk 3 0 x).written = 34 :: (x ++ [34]) := rfl
 rw [e,lu_tok h1 (by rw [w1,w2,w3,List.append_nil]; exact g1),lu_tok h2 (by rw [w2,w3,List.append_nil]; exact g2),lu_tok h3 (by rw [w3,List.append_nil]; exact g3),lu_tok h4 (Good.nil _)]
 rw [show lu [] = .ok [] from rfl]
 simp [shiftR,shift,Tk.width]
 omega
end Lx
namespace Lx
def dec (n : Nat) : List UInt8 := if n < 10 then [UInt8.ofNat (48 + n)] else dec (n / 10) ++ [UInt8.ofNat (48 + n % 10)]
termination_by n
end Lx
namespace Li
structure Nm where
 script : Int
 words : List (List UInt8)
deriving DecidableEq
structure En where
 id : List UInt8
 names : List Nm
deriving DecidableEq
structure Ls where
 en : En
 from_ : Int
 to_ : Int
 void : Bool
deriving DecidableEq
structure Ch where
 kind : Int
 id : List UInt8
 en : En
 at_ : Int
deriving DecidableEq
def nmOk (n : Nm) : Bool := n.words.all (fun w => (Sc.lets n.script w).isSome) && decide (0 < n.words.length) && decide (n.words.length ≤ 6)
def ident (t : List UInt8) : Bool := t.all Lx.isWord && decide (0 < t.length) && decide (t.length ≤ 24) && t.head?.any Lx.isLetter
def inst (t : Int) : Bool := decide (0 ≤ t) && decide (t ≤ 144001439)
def proper (e : En) : Bool := ident e.id && decide (0 < e.names.length) && decide (e.names.length ≤ 8) && e.names.all nmOk
def elOk (x : Ls) : Bool := proper x.en && inst x.from_ && (decide (x.to_ = -1) || (inst x.to_ && decide (x.from_ < x.to_)))
def ids (l : List Ls) : List (List UInt8) := l.map fun x => x.en.id
def properL (l : List Ls) : Bool := l.all elOk && decide ((ids l).Nodup) && decide (l.length ≤ 400)
def withEntry (c : Ch) : Bool := decide (c.kind = 1) || decide (c.kind = 3)
def dated (c : Ch) : Bool := decide (c.kind = 1) || decide (c.kind = 2)
def formed (c : Ch) : Bool :=
 ident c.id && decide (1 ≤ c.kind) && decide (c.kind ≤ 4) &&
 (if withEntry c then decide (c.en.id = c.id) && proper c.en else decide (c.en.id = []) && decide (c.en.names = [])) &&
 (if dated c then inst c.at_ else decide (c.at_ = 0))
def find : List Ls → List UInt8 → Option Nat
 | [],_ => none
 | x :: l,a => if x.en.id = a then some 0 else (find l a).map (· + 1)
def upd (x : Ls) (c : Ch) : Ls := if c.kind = 2 then { x with to_ := c.at_ } else if c.kind = 3 then { x with en := c.en } else { x with void := true }
def refusal (x : Ls) (c : Ch) : Int :=
 if x.void = true ∨ (c.kind = 2 ∧ x.to_ ≠ -1) then 12 else if c.kind = 2 ∧ c.at_ ≤ x.from_ then 14 else 0
def apply (l : List Ls) (c : Ch) : List Ls × Int :=
 if properL l && formed c then
  if c.kind = 1 then
   match find l c.id with
   | some _ => ([],9)
   | none => if l.length = 400 then ([],2) else (l ++ [⟨c.en,c.at_,-1,false⟩],0)
  else
   match find l c.id with
   | none => ([],11)
   | some k =>
    match l[k]? with
    | none => ([],0)
    | some x => if refusal x c ≠ 0 then ([],refusal x c) else (l.set k (upd x c),0)
 else ([],1)
def live (t : Int) (x : Ls) : Bool := !x.void && decide (x.from_ ≤ t) && (decide (x.to_ = -1) || decide (t < x.to_))
def at_ (l : List Ls) (t : Int) : List En := if properL l && inst t then (l.filter (live t)).map Ls.en else []
def run : List Ls → List Ch → List Ls × List Int
 | l,[] => (l,[])
 | l,c :: cs =>
  let r := apply l c
  let l' := if r.2 = 0 then r.1 else l
  ((run l' cs).1,r.2 :: (run l' cs).2)
/-! ### finding -/
end Li
