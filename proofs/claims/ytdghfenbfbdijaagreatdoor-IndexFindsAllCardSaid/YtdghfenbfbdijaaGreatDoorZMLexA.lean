/-
 Several texts in one: ZLexAid, ZLexRefA, ZLexRefB, ZLexRefC, ZLexLoop, ZLexRefD, ZTok. Conditions: as each law says.
-/
import Derived.Test.YtdghfenbfbdijaaGreatDoorZLexPure
import Derived.Test.YtdghfenbfbdijaaGreatDoorZMBase
import Derived.Test.YtdghfenbfbdijaaGreatDoorZMLx
namespace Lx
def run (p : UInt8 → Bool) (l : List UInt8) (k : Nat) : Nat := k + ((l.drop k).takeWhile p).length
theorem drop_cons {l : List UInt8} {k : Nat} (h : k < l.length) : l.drop k = l[k] :: l.drop (k + 1) := List.drop_eq_getElem_cons h
theorem run_step {p : UInt8 → Bool} {l : List UInt8} {k : Nat} (h : k < l.length) (hp : p l[k] = true) : run p l (k + 1) = run p l k := by
 unfold run
 rw [drop_cons h,List.takeWhile_cons,if_pos hp]
 simp
 omega
theorem run_stop {p : UInt8 → Bool} {l : List UInt8} {k : Nat} (h : ∀ hk : k < l.length,p l[k] = false) : run p l k = k := by
 unfold run
 by_cases hk : k < l.length
 ·rw [drop_cons hk,List.takeWhile_cons,if_neg (by simp [h hk])]; rfl
 ·rw [List.drop_eq_nil_of_le (by omega)]; rfl
theorem run_le (p : UInt8 → Bool) (l : List UInt8) (k : Nat) (hk : k ≤ l.length) : run p l k ≤ l.length := by
 unfold run
 have := congrArg List.length (List.takeWhile_append_dropWhile (p := p) (l := l.drop k))
 rw [List.length_append,List.length_drop] at this
 omega
theorem run_ge (p : UInt8 → Bool) (l : List UInt8) (k : Nat) : k ≤ run p l k := Nat.le_add_right _ _
theorem run_take (p : UInt8 → Bool) (l : List UInt8) (k : Nat) : (l.drop k).take (run p l k - k) = (l.drop k).takeWhile p := by
 unfold run
 rw [Nat.add_sub_cancel_left]
 generalize l.drop k = m
 have e := List.takeWhile_append_dropWhile (p := p) (l := m)
 conv => lhs; arg 2; rw [← e]
 rw [List.take_append,List.take_length,Nat.sub_self,List.take_zero,List.append_nil]
theorem run_drop (p : UInt8 → Bool) (l : List UInt8) (k : Nat) : l.drop (run p l k) = (l.drop k).dropWhile p := by
 unfold run
 rw [← List.drop_drop]
 generalize l.drop k = m
 have e := List.takeWhile_append_dropWhile (p := p) (l := m)
 conv => lhs; arg 2; rw [← e]
 rw [List.drop_append,List.drop_length,Nat.sub_self]
 rfl
def gapTo (b : Bool) (l : List UInt8) (k : Nat) : Nat := l.length - (skip b (l.drop k)).length
theorem gapTo_end {b : Bool} {l : List UInt8} {k : Nat} (h : l.length ≤ k) : gapTo b l k = l.length := by
 unfold gapTo
 rw [List.drop_eq_nil_of_le h]
 cases b <;> rfl
theorem gapTo_stop {l : List UInt8} {k : Nat} (h : k < l.length) (hb : isBlank l[k] = false) (hh : l[k] ≠ 35) : gapTo false l k = k := by
 unfold gapTo
 rw [drop_cons h]
 simp [skip,hb,hh]
 omega
theorem gapTo_le (b : Bool) (l : List UInt8) (k : Nat) : gapTo b l k ≤ l.length := Nat.sub_le _ _
theorem gapTo_ge (b : Bool) (l : List UInt8) (k : Nat) (hk : k ≤ l.length) : k ≤ gapTo b l k := by
 unfold gapTo
 have := skip_length b (l.drop k)
 simp at this
 omega
theorem gapTo_drop (b : Bool) (l : List UInt8) (k : Nat) : l.drop (gapTo b l k) = skip b (l.drop k) := by
 obtain ⟨p,h1,_⟩ := skip_split b (l.drop k)
 have hl := congrArg List.length h1
 simp at hl
 unfold gapTo
 by_cases hk : k ≤ l.length
 ·have e : l.length - (skip b (l.drop k)).length = k + p.length := by omega
  rw [e,← List.drop_drop]
  conv => lhs; rw [h1]
  simp
 ·rw [List.drop_eq_nil_of_le (show l.length ≤ k by omega)]
  cases b <;> simp [skip]
/-! ### the token at an offset -/
theorem takeWhile_at {p : UInt8 → Bool} {l : List UInt8} {k : Nat} (h : k < l.length) (hp : p l[k] = true) :
  (l[k] :: l.drop (k + 1)).takeWhile p = (l.drop k).take (run p l (k + 1) - k) ∧ ((l[k] :: l.drop (k + 1)).takeWhile p).length = run p l (k + 1) - k ∧
   (l[k] :: l.drop (k + 1)).dropWhile p = l.drop (run p l (k + 1)) := by
 rw [← drop_cons h,run_step h hp]
 refine ⟨(run_take p l k).symm,?_,(run_drop p l k).symm⟩
 unfold run
 omega
theorem next_letter_err {l : List UInt8} {k : Nat} (h : k < l.length) (hl : isLetter l[k] = true) (hE : 24 < run isWord l (k + 1) - k) :
  nextTok l[k] (l.drop (k + 1)) = .error 2 := by
 obtain ⟨_,h2,_⟩ := takeWhile_at h (word_of_letter hl)
 unfold nextTok
 rw [if_pos hl,h2,if_pos hE]
theorem next_letter_ok {l : List UInt8} {k : Nat} (h : k < l.length) (hl : isLetter l[k] = true) (hE : run isWord l (k + 1) - k ≤ 24) :
  nextTok l[k] (l.drop (k + 1)) = .ok ⟨1,0,(l.drop k).take (run isWord l (k + 1) - k)⟩ := by
 obtain ⟨h1,h2,_⟩ := takeWhile_at h (word_of_letter hl)
 unfold nextTok
 rw [if_pos hl,h2,if_neg (by omega),h1]
theorem letter_of_digit {c : UInt8} (h : isDigit c = true) : isLetter c = false := by
 simp [isDigit,isLetter,UInt8.le_iff_toNat_le] at h ⊢
 omega
theorem head_drop {l : List UInt8} {k : Nat} (h : k < l.length) : (l.drop k).head? = some l[k] := by rw [drop_cons h]; rfl
theorem next_digit_err {l : List UInt8} {k : Nat} (h : k < l.length) (hd : isDigit l[k] = true)
  (hE : 13 < run isDigit l (k + 1) - k ∨ ∃ hh : run isDigit l (k + 1) < l.length,isWord l[run isDigit l (k + 1)] = true) :
  nextTok l[k] (l.drop (k + 1)) = .error 4 := by
 obtain ⟨h1,h2,h3⟩ := takeWhile_at h hd
 unfold nextTok
 rw [if_neg (by simp [letter_of_digit hd]),if_pos hd,h2,h3,if_pos]
 rcases hE with hE | ⟨hh,hw⟩
 ·simp [hE]
 ·have hz := head_drop hh
  rw [hz]
  have : isDigit l[run isDigit l (k + 1)] = false := by
   rw [← h3] at hz
   exact dropWhile_head hz
  simp [isWord,this] at hw
  simp [hw]
theorem next_digit_ok {l : List UInt8} {k : Nat} (h : k < l.length) (hd : isDigit l[k] = true)
  (hE : run isDigit l (k + 1) - k ≤ 13) (hw : ∀ hh : run isDigit l (k + 1) < l.length,isWord l[run isDigit l (k + 1)] = false) :
  nextTok l[k] (l.drop (k + 1)) = .ok ⟨2,value ((l.drop k).take (run isDigit l (k + 1) - k)),(l.drop k).take (run isDigit l (k + 1) - k)⟩ := by
 obtain ⟨h1,h2,h3⟩ := takeWhile_at h hd
 unfold nextTok
 rw [if_neg (by simp [letter_of_digit hd]),if_pos hd,h2,h3,if_neg,h1]
 simp only [Bool.or_eq_true,decide_eq_true_eq,not_or,Bool.not_eq_true]
 refine ⟨by omega,?_⟩
 by_cases hh : run isDigit l (k + 1) < l.length
 ·rw [head_drop hh]
  have := hw hh
  simp [isWord] at this
  simp [this]
 ·rw [List.drop_eq_nil_of_le (by omega)]; rfl
theorem next_quote {l : List UInt8} {k : Nat} (h : k < l.length) (hq : l[k] = 34) :
  nextTok l[k] (l.drop (k + 1)) = match l.drop (run inBody l (k + 1)) with
   | [] => .error 6
   | q :: _ => if q = 10 then .error 6 else if run inBody l (k + 1) - (k + 1) > 400 then .error 2 else .ok ⟨3,0,(l.drop (k + 1)).take (run inBody l (k + 1) - (k + 1))⟩ := by
 have e : ((l.drop (k + 1)).takeWhile inBody).length = run inBody l (k + 1) - (k + 1) := by unfold run; omega
 unfold nextTok
 rw [hq,if_neg (by decide),if_neg (by decide),if_pos rfl,← run_drop,e,run_take]
 cases List.drop (run inBody l (k + 1)) l <;> rfl
theorem next_quote_open {l : List UInt8} {k : Nat} (h : k < l.length) (hq : l[k] = 34) (hE : ∀ hh : run inBody l (k + 1) < l.length,l[run inBody l (k + 1)] = 10) :
  nextTok l[k] (l.drop (k + 1)) = .error 6 := by
 rw [next_quote h hq]
 by_cases hh : run inBody l (k + 1) < l.length
 ·rw [drop_cons hh]; simp [hE hh]
 ·rw [List.drop_eq_nil_of_le (by omega)]
theorem next_quote_long {l : List UInt8} {k : Nat} (h : k < l.length) (hq : l[k] = 34) (hh : run inBody l (k + 1) < l.length) (h10 : l[run inBody l (k + 1)] ≠ 10)
  (hE : 400 < run inBody l (k + 1) - (k + 1)) : nextTok l[k] (l.drop (k + 1)) = .error 2 := by
 rw [next_quote h hq,drop_cons hh]
 simp only
 rw [if_neg h10,if_pos hE]
theorem next_quote_ok {l : List UInt8} {k : Nat} (h : k < l.length) (hq : l[k] = 34) (hh : run inBody l (k + 1) < l.length) (h10 : l[run inBody l (k + 1)] ≠ 10)
  (hE : run inBody l (k + 1) - (k + 1) ≤ 400) : nextTok l[k] (l.drop (k + 1)) = .ok ⟨3,0,(l.drop (k + 1)).take (run inBody l (k + 1) - (k + 1))⟩ := by
 rw [next_quote h hq,drop_cons hh]
 simp only
 rw [if_neg h10,if_neg (by omega)]
def isRest (c : UInt8) : Bool := !isLetter c && !isDigit c && c != 34
theorem next_rest {c : UInt8} (h : isRest c = true) (s : List UInt8) : nextTok c s =
  if (c = 33 ∨ isAngle c) ∧ s.head? = some 61 then .ok ⟨4,0,[c,61]⟩ else if isAngle c ∨ isPlain c then .ok ⟨4,0,[c]⟩ else .error 3 := by
 simp [isRest] at h
 unfold nextTok
 rw [if_neg (by simp [h]),if_neg (by simp [h]),if_neg h.2]
theorem take_one {l : List UInt8} {k : Nat} (h : k < l.length) : (l.drop k).take 1 = [l[k]] := by rw [drop_cons h]; rfl
theorem take_two {l : List UInt8} {k : Nat} (h : k + 1 < l.length) : (l.drop k).take 2 = [l[k],l[k + 1]] := by rw [drop_cons (by omega),drop_cons h]; rfl
theorem next_two {l : List UInt8} {k : Nat} (h : k + 1 < l.length) (hr : isRest l[k] = true) (hc : l[k] = 33 ∨ isAngle l[k] = true) (he : l[k + 1] = 61) :
  nextTok l[k] (l.drop (k + 1)) = .ok ⟨4,0,(l.drop k).take 2⟩ := by
 rw [next_rest hr,head_drop h,if_pos ⟨hc,by rw [he]⟩,take_two h,he]
theorem next_one {l : List UInt8} {k : Nat} (h : k < l.length) (hr : isRest l[k] = true) (hc : (l[k] = 33 ∨ isAngle l[k] = true) → ∀ hh : k + 1 < l.length,l[k + 1] ≠ 61)
  (hs : isAngle l[k] = true ∨ isPlain l[k] = true) : nextTok l[k] (l.drop (k + 1)) = .ok ⟨4,0,(l.drop k).take 1⟩ := by
 rw [next_rest hr,if_neg,if_pos hs,take_one h]
 rintro ⟨h1,h2⟩
 by_cases hh : k + 1 < l.length
 ·rw [head_drop hh] at h2; simp at h2; exact hc h1 hh h2
 ·rw [List.drop_eq_nil_of_le (by omega)] at h2; cases h2
theorem next_bad {l : List UInt8} {k : Nat} (h : k < l.length) (hr : isRest l[k] = true) (hc : (l[k] = 33 ∨ isAngle l[k] = true) → ∀ hh : k + 1 < l.length,l[k + 1] ≠ 61)
  (hs : isAngle l[k] = false ∧ isPlain l[k] = false) : nextTok l[k] (l.drop (k + 1)) = .error 3 := by
 rw [next_rest hr,if_neg,if_neg (by simp [hs])]
 rintro ⟨h1,h2⟩
 by_cases hh : k + 1 < l.length
 ·rw [head_drop hh] at h2; simp at h2; exact hc h1 hh h2
 ·rw [List.drop_eq_nil_of_le (by omega)] at h2; cases h2
/-! ### numbers -/
theorem value_snoc (d : List UInt8) (c : UInt8) : value (d ++ [c]) = 10 * value d + (c.toNat - 48) := by
 simp [value]
theorem value_foldl (d : List UInt8) : ∀ n : Nat,d.all isDigit = true → d.foldl (fun n c => 10 * n + (c.toNat - 48)) n < (n + 1) * 10 ^ d.length := by
 induction d with
 | nil => intro n _; simp
 | cons c d ih =>
  intro n h
  simp only [List.all_cons,Bool.and_eq_true] at h
  have h1 := ih (10 * n + (c.toNat - 48)) h.2
  have h2 := h.1
  simp [isDigit,UInt8.le_iff_toNat_le] at h2
  rw [List.foldl_cons,List.length_cons,Nat.pow_succ]
  refine Nat.lt_of_lt_of_le h1 ?_
  rw [Nat.mul_comm (10 ^ d.length) 10,← Nat.mul_assoc]
  exact Nat.mul_le_mul_right _ (by omega)
theorem value_lt (d : List UInt8) (h : d.all isDigit = true) : value d < 10 ^ d.length := by
 have := value_foldl d 0 h
 simpa [value] using this
theorem take_snoc {l : List UInt8} {k m : Nat} (h : m < l.length) (hk : k ≤ m) : (l.drop k).take (m + 1 - k) = (l.drop k).take (m - k) ++ [l[m]] := by
 rw [show m + 1 - k = (m - k) + 1 by omega,List.take_succ_eq_append_getElem (by simp; omega)]
 simp
 congr 1
 omega
theorem value_step {l : List UInt8} {k m : Nat} (h : m < l.length) (hk : k ≤ m) :
  value ((l.drop k).take (m + 1 - k)) = 10 * value ((l.drop k).take (m - k)) + (l[m].toNat - 48) := by
 rw [take_snoc h hk,value_snoc]
end Lx
namespace Go.Proofs.YtdghfenbfbdijaaGreatDoor
open Go.RowKit
end Go.Proofs.YtdghfenbfbdijaaGreatDoor
namespace Go.Proofs.YtdghfenbfbdijaaGreatDoor
open Go.RowKit
def tokV (at_ : Nat) (t : Lx.Tk) : Value := .agg #[.int .i64 t.kind,.int .i64 at_,.int .i64 t.n,.string (bs t.text)]
def tok0 : Value := .agg #[.int .i64 0,.int .i64 0,.int .i64 0,.string ⟨#[]⟩]
end Go.Proofs.YtdghfenbfbdijaaGreatDoor
namespace Go.Proofs.YtdghfenbfbdijaaGreatDoor
open Go.RowKit
end Go.Proofs.YtdghfenbfbdijaaGreatDoor
namespace Lx
structure St (L : List UInt8) (acc : List (Nat × Tk)) (j k : Nat) : Prop where
 all : lx 0 L = shiftR j acc (lx acc.length (L.drop j))
 gap : k = gapTo false L j
 le : j ≤ L.length
 few : acc.length ≤ 5000
theorem St.start (L : List UInt8) : St L [] 0 (gapTo false L 0) := ⟨by simp [shiftR_zero],rfl,Nat.zero_le _,by simp⟩
theorem St.skip {L : List UInt8} {acc : List (Nat × Tk)} {j k : Nat} (h : St L acc j k) : skip false (L.drop j) = L.drop k := by
 rw [h.gap,gapTo_drop]
theorem St.ge {L : List UInt8} {acc : List (Nat × Tk)} {j k : Nat} (h : St L acc j k) : j ≤ k ∧ k ≤ L.length := by
 rw [h.gap]; exact ⟨gapTo_ge _ _ _ h.le,gapTo_le _ _ _⟩
theorem St.done {L : List UInt8} {acc : List (Nat × Tk)} {j k : Nat} (h : St L acc j k) (hk : L.length ≤ k) : lx 0 L = .ok acc := by
 rw [h.all,lx_eq,h.skip,List.drop_eq_nil_of_le hk]
 simp [shiftR,shift]
theorem St.step {L : List UInt8} {acc : List (Nat × Tk)} {j k : Nat} (h : St L acc j k) (hk : k < L.length) : lx 0 L =
  shiftR j acc (match nextTok L[k] (L.drop (k + 1)) with
   | .error e => .error (e,k - j)
   | .ok t => if acc.length = 5000 then .error (2,k - j) else shiftR (k - j + t.width) [(k - j,t)] (lx (acc.length + 1) ((L.drop k).drop t.width))) := by
 have hg := h.ge
 rw [h.all,lx_eq,h.skip,drop_cons hk]
 simp only
 have e : (L.drop j).length - ((L.drop (k + 1)).length + 1) = k - j := by simp; omega
 rw [e]
 cases nextTok L[k] (L.drop (k + 1)) <;> rfl
theorem St.err {L : List UInt8} {acc : List (Nat × Tk)} {j k e : Nat} (h : St L acc j k) (hk : k < L.length) (hn : nextTok L[k] (L.drop (k + 1)) = .error e) : lx 0 L = .error (e,k) := by
 have hg := h.ge
 rw [h.step hk,hn]
 simp only [shiftR]
 congr 2
 omega
theorem St.full {L : List UInt8} {acc : List (Nat × Tk)} {j k : Nat} {t : Tk} (h : St L acc j k) (hk : k < L.length) (hn : nextTok L[k] (L.drop (k + 1)) = .ok t) (hc : acc.length = 5000) : lx 0 L = .error (2,k) := by
 have hg := h.ge
 rw [h.step hk,hn]
 simp only [hc,if_true,shiftR]
 congr 2
 omega
theorem St.next {L : List UInt8} {acc : List (Nat × Tk)} {j k : Nat} {t : Tk} (h : St L acc j k) (hk : k < L.length) (hn : nextTok L[k] (L.drop (k + 1)) = .ok t) (hc : acc.length ≠ 5000) :
  St L (acc ++ [(k,t)]) (k + t.width) (gapTo false L (k + t.width)) ∧ 0 < t.width ∧ k + t.width ≤ L.length := by
 have hg := h.ge
 have hw := next_width hn
 have hl : (L.drop (k + 1)).length = L.length - (k + 1) := by simp
 refine ⟨⟨?_,rfl,by omega,?_⟩,hw.1,by omega⟩
 ·rw [h.step hk,hn]
  simp only
  rw [if_neg hc,shiftR_shiftR,List.drop_drop,List.length_append,List.length_singleton]
  have e1 : j + (k - j + t.width) = k + t.width := by omega
  have e2 : j + (k - j) = k := by omega
  simp [shift,e1,e2]
 ·have := h.few
  rw [List.length_append,List.length_singleton]
  omega
end Lx
namespace Go.Proofs.YtdghfenbfbdijaaGreatDoor
open Go.RowKit
theorem nextTok_err_pos {c : UInt8} {s : List UInt8} {e : Nat} (h : Lx.nextTok c s = .error e) : 0 < e ∧ e < 100 := by
 unfold Lx.nextTok at h
 repeat' (split at h)
 all_goals (cases h)
 all_goals omega
def tokCells (l : List (Nat × Lx.Tk)) : List Value := l.flatMap fun p => [.int .i64 p.2.kind,.int .i64 p.1,.int .i64 p.2.n,.string (bs p.2.text)]
theorem tokCells_snoc (l : List (Nat × Lx.Tk)) (k : Nat) (t : Lx.Tk) : tokCells (l ++ [(k,t)]) = tokCells l ++ [.int .i64 t.kind,.int .i64 k,.int .i64 t.n,.string (bs t.text)] := by
 simp [tokCells]
def LexPost (w : World) (r : List (Nat × Lx.Tk) × Int × Int) (e : Ending) (w' : World) : Prop :=
 ∃ v,e = .returned (.tuple #[v,.int .i64 r.2.1,.int .i64 r.2.2]) ∧ w'.ownsRow w.heap.size 126 4 v r.1.length (tokCells r.1) ∧ Below w.heap.size w w'
theorem lex_ok {L : List UInt8} {l : List (Nat × Lx.Tk)} (h20 : L.length ≤ 20000) (h : Lx.lx 0 L = .ok l) : Lx.lex L = (l,0,0) := by
 rw [Lx.lex,if_neg (by omega),h]
theorem lex_err {L : List UInt8} {e o : Nat} (h20 : L.length ≤ 20000) (h : Lx.lx 0 L = .error (e,o)) : Lx.lex L = ([],(e : Int),(o : Int)) := by
 rw [Lx.lex,if_neg (by omega),h]
theorem Tryz.infoTok : (Tryz.prog.info? 126).map (fun i => (i.zero,i.size,i.bytes)) = some (some (.agg #[.int .i64 0,.int .i64 0,.int .i64 0,.string ⟨#[]⟩]),4,40) := by kernel_rfl
theorem LexPost.nil {w w' : World} {e off : Int} {r : List (Nat × Lx.Tk) × Int × Int} (h : r = ([],e,off)) (hb : Below w.heap.size w w') :
  LexPost w r (.returned (.tuple #[.slice none 0 0,.int .i64 e,.int .i64 off])) w' := by
 subst h
 exact ⟨_,rfl,World.ownsRow_nil _ _ _ _,hb⟩
theorem LexPost.mk {w w' : World} {v : Value} {l : List (Nat × Lx.Tk)} {r : List (Nat × Lx.Tk) × Int × Int} (h : r = (l,0,0)) (ho : w'.ownsRow w.heap.size 126 4 v l.length (tokCells l)) (hb : Below w.heap.size w w') :
  LexPost w r (.returned (.tuple #[v,.int .i64 0,.int .i64 0])) w' := by
 subst h
 exact ⟨_,rfl,ho,hb⟩
end Go.Proofs.YtdghfenbfbdijaaGreatDoor
namespace Go.Proofs.YtdghfenbfbdijaaGreatDoor
open Go.RowKit
structure TokCell (w : World) (g o : Nat) (p : Nat × Lx.Tk) : Prop where
 c0 : w.cell? ⟨g,o,none⟩ = some (.int .i64 p.2.kind)
 c1 : w.cell? ⟨g,o + 1,none⟩ = some (.int .i64 p.1)
 c2 : w.cell? ⟨g,o + 2,none⟩ = some (.int .i64 p.2.n)
 c3 : w.cell? ⟨g,o + 3,none⟩ = some (.string (bs p.2.text))
def TokRow (w : World) (g o : Nat) (l : List (Nat × Lx.Tk)) : Prop := g < w.heap.size ∧ ∀ i p,l[i]? = some p → TokCell w g (o + i * 4) p
def TokSl (w : World) (v : Value) (l : List (Nat × Lx.Tk)) : Prop :=
 ∃ cap,l.length ≤ cap ∧ cap ≤ maxLen ∧ ((l = [] ∧ v = .slice none 0 cap) ∨ ∃ g o,v = .slice (some ⟨g,o,none⟩) l.length cap ∧ TokRow w g o l)
theorem TokCell.below {w w' : World} {g o : Nat} {p : Nat × Lx.Tk} (h : TokCell w g o p) (hb : Below w.heap.size w w') (hg : g < w.heap.size) : TokCell w' g o p :=
 ⟨(hb.cell (p := ⟨g,o,none⟩) hg).trans h.c0,(hb.cell (p := ⟨g,o + 1,none⟩) hg).trans h.c1,(hb.cell (p := ⟨g,o + 2,none⟩) hg).trans h.c2,(hb.cell (p := ⟨g,o + 3,none⟩) hg).trans h.c3⟩
theorem TokRow.below {w w' : World} {g o : Nat} {l : List (Nat × Lx.Tk)} (h : TokRow w g o l) (hb : Below w.heap.size w w') : TokRow w' g o l :=
 ⟨Nat.lt_of_lt_of_le h.1 hb.size,fun i p hp => (h.2 i p hp).below hb h.1⟩
theorem TokSl.below {w w' : World} {v : Value} {l : List (Nat × Lx.Tk)} (h : TokSl w v l) (hb : Below w.heap.size w w') : TokSl w' v l := by
 obtain ⟨cap,h1,h2,h3⟩ := h
 refine ⟨cap,h1,h2,?_⟩
 rcases h3 with h3 | ⟨g,o,hv,hr⟩
 ·exact .inl h3
 ·exact .inr ⟨g,o,hv,hr.below hb⟩
theorem tokCells_get {l : List (Nat × Lx.Tk)} {i : Nat} {p : Nat × Lx.Tk} (h : l[i]? = some p) :
  (tokCells l)[i * 4]? = some (.int .i64 p.2.kind) ∧ (tokCells l)[i * 4 + 1]? = some (.int .i64 p.1) ∧ (tokCells l)[i * 4 + 2]? = some (.int .i64 p.2.n) ∧ (tokCells l)[i * 4 + 3]? = some (.string (bs p.2.text)) := by
 induction l generalizing i with
 | nil => simp at h
 | cons x l ih =>
  have e : tokCells (x :: l) = [.int .i64 x.2.kind,.int .i64 x.1,.int .i64 x.2.n,.string (bs x.2.text)] ++ tokCells l := rfl
  rw [e]
  cases i with
  | zero => simp at h; subst h; simp
  | succ i =>
   simp only [List.getElem?_cons_succ] at h
   have := ih h
   refine ⟨?_,?_,?_,?_⟩
   ·rw [List.getElem?_append_right (by simp; omega),show (i + 1) * 4 - _ = i * 4 by simp; omega]; exact this.1
   ·rw [List.getElem?_append_right (by simp; omega),show (i + 1) * 4 + 1 - _ = i * 4 + 1 by simp; omega]; exact this.2.1
   ·rw [List.getElem?_append_right (by simp; omega),show (i + 1) * 4 + 2 - _ = i * 4 + 2 by simp; omega]; exact this.2.2.1
   ·rw [List.getElem?_append_right (by simp; omega),show (i + 1) * 4 + 3 - _ = i * 4 + 3 by simp; omega]; exact this.2.2.2
theorem TokSl.of_owns {w : World} {B : Nat} {v : Value} {l : List (Nat × Lx.Tk)} (h : w.ownsRow B 126 4 v l.length (tokCells l)) : TokSl w v l := by
 rcases h.2 with ⟨rfl,hz⟩ | ⟨g,cap,cur,rfl,hg,hh,hn,hc,hs,ht⟩
 ·exact ⟨0,by omega,by unfold maxLen; omega,.inl ⟨List.length_eq_zero_iff.1 hz,rfl⟩⟩
 ·refine ⟨cap,hn,hc,.inr ⟨g,0,rfl,(Array.getElem?_eq_some_iff.1 hh).1,fun i p hp => ?_⟩⟩
  have hi : i < l.length := (List.getElem?_eq_some_iff.1 hp).1
  obtain ⟨t0,t1,t2,t3⟩ := tokCells_get hp
  rw [Nat.zero_add]
  exact ⟨(h.cellAt (i * 4) (by omega)).trans t0,(h.cellAt (i * 4 + 1) (by omega)).trans t1,(h.cellAt (i * 4 + 2) (by omega)).trans t2,(h.cellAt (i * 4 + 3) (by omega)).trans t3⟩
end Go.Proofs.YtdghfenbfbdijaaGreatDoor
