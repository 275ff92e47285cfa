/-
  What the reference lexer's 'next' returns: the token at an offset as the plain lexer has it. Conditions: the offset lies in the text; lengths within Go's own bound.
-/
import Derived.Test.YteogmlgmodeajaaGreatDoorZLexRefA
namespace Go.Proofs.YteogmlgmodeajaaGreatDoor
open Go.RowKit

/-- a token as a value -/
def tokV (at_ : Nat) (t : Lx.Tk) : Value := .agg #[.int .i64 t.kind, .int .i64 at_, .int .i64 t.n, .string (bs t.text)]
def tok0 : Value := .agg #[.int .i64 0, .int .i64 0, .int .i64 0, .string ⟨#[]⟩]
/-- what 'next' of the reference returns -/
def rnextV (at_ : Nat) : Except Nat Lx.Tk → Value
  | .ok t => .tuple #[tokV at_ t, .int .i64 0]
  | .error e => .tuple #[tok0, .int .i64 e]

theorem rnext_done {k : Nat} {w w' : World} {r x : Except Nat Lx.Tk} {v : Value} (h : r = x) (hv : v = rnextV k x) (hb : Below w.heap.size w w') :
    Gives (rnextV k r) w (.returned v) w' := by
  subst h; subst hv; exact ⟨rfl, hb⟩

set_option maxRecDepth 100000 in
set_option maxHeartbeats 800000 in
theorem rnext_letter_core (t : ByteArray) (k E : Nat) (w : World) (hs : t.size ≤ maxLen) (hk : k < t.size) (h : Lx.isLetter t[k] = true)
    (hE : Hid (Lx.run Lx.isWord t.data.toList (k + 1) = E)) :
    Calls Tryz.prog 55 #[.string t, .int .i64 k] w (Gives (rnextV k (Lx.nextTok t[k] (t.data.toList.drop (k + 1)))) w) := by
  unfold maxLen at hs
  go_enter Tryz.func55, Tryz.ntmps55
  go_wp2_with (go_at_call 59; refine (letter_any _ _).mono ?_; rintro e w' ⟨rfl, rfl⟩)
  go_loop [6] (fun i => ∃ j : Nat, k < j ∧ j ≤ t.size ∧ i = .int .i64 j ∧ Hid (Lx.run Lx.isWord t.data.toList j = E)) (fun i => t.size - (intOf i).toNat)
  case atStart => exact ⟨k + 1, by omega, by omega, by go_num, hE⟩
  case round =>
    obtain ⟨j, hkj, hj, rfl, hm⟩ := hrel
    by_cases hjt : j < t.size
    · have hl' : j < t.data.toList.length := by simpa using hjt
      by_cases hw : Lx.isWord t[j] = true
      · have H5 : Hid (Lx.run Lx.isWord t.data.toList (j + 1) = E) := (Lx.run_step hl' hw).trans hm.out
        clear hm
        go_wp2_with (go_at_call 58; refine (word_any _ _).mono ?_; rintro e w' ⟨rfl, rfl⟩)
        go_round
        case rel => exact ⟨j + 1, by omega, by omega, by go_num, H5⟩
        case measure => simp [intOf]; omega
      · have hw' : Lx.isWord t[j] = false := Bool.eq_false_iff.2 hw
        have H5 : Hid (j = E) := (Lx.run_stop (fun _ => hw')).symm.trans hm.out
        clear hm hw
        go_wp2_with (go_at_call 58; refine (word_any _ _).mono ?_; rintro e w' ⟨rfl, rfl⟩)
        · refine post_cell_tmp rfl (v := tok0) (x := .int .i64 2) rfl (by simp [go_sem, tok0]) rfl rfl ?_
          exact rnext_done (Lx.next_letter_err (by simpa using hk) h (by rw [hE.out, ← H5.out]; omega)) rfl (by repeat (first | exact Below.refl _ _ | refine Below.alloc ?_ (by simp) _))
        · refine post_cell_tmp rfl (v := .agg #[.int .i64 1, .int .i64 k, .int .i64 0, .string (t.extract k j)]) (x := .int .i64 0) rfl (by simp [go_sem]) rfl rfl ?_
          exact rnext_done (Lx.next_letter_ok (by simpa using hk) h (by rw [hE.out, ← H5.out]; omega)) (by rw [extract_bs, hE.out, ← H5.out]; rfl) (by repeat (first | exact Below.refl _ _ | refine Below.alloc ?_ (by simp) _))
    · have H5 : Hid (j = E) := (Lx.run_stop (fun hh => absurd hh (by simpa using hjt))).symm.trans hm.out
      clear hm
      go_wp2
      · refine post_cell_tmp rfl (v := tok0) (x := .int .i64 2) rfl (by simp [go_sem, tok0]) rfl rfl ?_
        exact rnext_done (Lx.next_letter_err (by simpa using hk) h (by rw [hE.out, ← H5.out]; omega)) rfl (by repeat (first | exact Below.refl _ _ | refine Below.alloc ?_ (by simp) _))
      · refine post_cell_tmp rfl (v := .agg #[.int .i64 1, .int .i64 k, .int .i64 0, .string (t.extract k j)]) (x := .int .i64 0) rfl (by simp [go_sem]) rfl rfl ?_
        exact rnext_done (Lx.next_letter_ok (by simpa using hk) h (by rw [hE.out, ← H5.out]; omega)) (by rw [extract_bs, hE.out, ← H5.out]; rfl) (by repeat (first | exact Below.refl _ _ | refine Below.alloc ?_ (by simp) _))

set_option maxRecDepth 100000 in
set_option maxHeartbeats 800000 in
theorem rnext_quote_core (t : ByteArray) (k E : Nat) (w : World) (hs : t.size ≤ maxLen) (hk : k < t.size) (h : t[k] = 34)
    (hE : Hid (Lx.run Lx.inBody t.data.toList (k + 1) = E)) :
    Calls Tryz.prog 55 #[.string t, .int .i64 k] w (Gives (rnextV k (Lx.nextTok t[k] (t.data.toList.drop (k + 1)))) w) := by
  unfold maxLen at hs
  have hl : k < t.data.toList.length := by simpa using hk
  have g1 : Lx.isLetter t[k] = false := by rw [h]; decide
  have g2 : Lx.isDigit t[k] = false := by rw [h]; decide
  have g3 : ((t[k].toNat : Int) == 34) = true := u8_eq (d := 34) h
  have h' := hid h
  clear h
  go_enter Tryz.func55, Tryz.ntmps55
  go_wp2_with (first | (go_at_call 59; refine (letter_any _ _).mono ?_; rintro e w' ⟨rfl, rfl⟩) | (go_at_call 72; refine (digit_any _ _).mono ?_; rintro e w' ⟨rfl, rfl⟩))
  go_loop [6] (fun i => ∃ j : Nat, k < j ∧ j ≤ t.size ∧ i = .int .i64 j ∧ Hid (Lx.run Lx.inBody t.data.toList j = E)) (fun i => t.size - (intOf i).toNat)
  case atStart => exact ⟨k + 1, by omega, by omega, by go_num, hE⟩
  case round =>
    obtain ⟨j, hkj, hj, rfl, hm⟩ := hrel
    by_cases hjt : j < t.size
    · have hl' : j < t.data.toList.length := by simpa using hjt
      by_cases h34 : t[j] = 34
      · have q1 : ((t[j].toNat : Int) != 34) = false := u8_bne_f (d := 34) h34
        have q2 : ((t[j].toNat : Int) == 10) = false := u8_ne (d := 10) (by rw [h34]; decide)
        have H5 : Hid (j = E) := (Lx.run_stop (p := Lx.inBody) (fun _ => by show Lx.inBody t[j] = false; rw [h34]; decide)).symm.trans hm.out
        have H6 := hid h34
        clear hm h34
        go_wp2
        · refine post_cell_tmp rfl (v := tok0) (x := .int .i64 2) rfl (by simp [go_sem, tok0]) rfl rfl ?_
          have e := H5.out
          subst e
          exact rnext_done (Lx.next_quote_long hl h'.out (by rw [hE.out]; exact hl') (by simp only [hE.out]; show t[j] ≠ 10; rw [H6.out]; decide) (by rw [hE.out]; omega)) rfl (by repeat (first | exact Below.refl _ _ | refine Below.alloc ?_ (by simp) _))
        · refine post_cell_tmp rfl (v := .agg #[.int .i64 3, .int .i64 k, .int .i64 0, .string (t.extract (k + 1) j)]) (x := .int .i64 0) rfl (by simp [go_sem]) rfl rfl ?_
          have e := H5.out
          subst e
          exact rnext_done (Lx.next_quote_ok hl h'.out (by rw [hE.out]; exact hl') (by simp only [hE.out]; show t[j] ≠ 10; rw [H6.out]; decide) (by rw [hE.out]; omega)) (by rw [extract_bs, hE.out]; rfl) (by repeat (first | exact Below.refl _ _ | refine Below.alloc ?_ (by simp) _))
      · have q1 : ((t[j].toNat : Int) != 34) = true := u8_bne_t (d := 34) h34
        by_cases h10 : t[j] = 10
        · have q2 : ((t[j].toNat : Int) != 10) = false := u8_bne_f (d := 10) h10
          have q3 : ((t[j].toNat : Int) == 10) = true := u8_eq (d := 10) h10
          have H5 : Hid (j = E) := (Lx.run_stop (p := Lx.inBody) (fun _ => by show Lx.inBody t[j] = false; rw [h10]; decide)).symm.trans hm.out
          have H6 := hid h10
          clear hm h10 h34
          go_wp2
          refine post_cell_tmp rfl (v := tok0) (x := .int .i64 6) rfl (by simp [go_sem, tok0]) rfl rfl ?_
          have e := H5.out
          subst e
          exact rnext_done (Lx.next_quote_open hl h'.out (fun hh => by simp only [hE.out]; exact H6.out)) rfl (by repeat (first | exact Below.refl _ _ | refine Below.alloc ?_ (by simp) _))
        · have q2 : ((t[j].toNat : Int) != 10) = true := u8_bne_t (d := 10) h10
          have H5 : Hid (Lx.run Lx.inBody t.data.toList (j + 1) = E) := (Lx.run_step hl' (by show Lx.inBody t[j] = true; simp [Lx.inBody, h34, h10])).trans hm.out
          clear hm h10 h34
          go_wp2
          go_round
          case rel => exact ⟨j + 1, by omega, by omega, by go_num, H5⟩
          case measure => simp [intOf]; omega
    · have H5 : Hid (j = E) := (Lx.run_stop (fun hh => absurd hh (by simpa using hjt))).symm.trans hm.out
      have q1 : ((j : Int) == (t.size : Int)) = true := by rw [beq_iff_eq]; omega
      clear hm
      go_wp2
      refine post_cell_tmp rfl (v := tok0) (x := .int .i64 6) rfl (by simp [go_sem, tok0]) rfl rfl ?_
      have e := H5.out
      subst e
      exact rnext_done (Lx.next_quote_open hl h'.out (fun hh => by rw [hE.out] at hh; exact absurd hh (by simpa using hjt))) rfl (by repeat (first | exact Below.refl _ _ | refine Below.alloc ?_ (by simp) _))

theorem hasB_mark (c : UInt8) : hasB ⟨#[33, 60, 62]⟩ c = true ↔ (c = 33 ∨ Lx.isAngle c = true) := by
  simp [hasB, Lx.isAngle]
theorem hasB_sym (c : UInt8) : hasB ⟨#[59, 44, 46, 58, 40, 41, 91, 93, 123, 125, 61, 60, 62, 43, 45]⟩ c = true ↔ (Lx.isAngle c = true ∨ Lx.isPlain c = true) := by
  simp only [hasB, Lx.isAngle, Lx.isPlain, List.contains_iff_mem, List.mem_cons, List.not_mem_nil, or_false, Bool.or_eq_true, beq_iff_eq]
  grind

set_option maxRecDepth 100000 in
set_option maxHeartbeats 800000 in
theorem rnext_two (t : ByteArray) (k : Nat) (w : World) (hs : t.size ≤ maxLen) (hk : k < t.size) (h : Lx.isRest t[k] = true) (hk1 : k + 1 < t.size) (hc : t[k] = 33 ∨ Lx.isAngle t[k] = true) (he : t[k + 1] = 61) :
    Calls Tryz.prog 55 #[.string t, .int .i64 k] w (Gives (rnextV k (Lx.nextTok t[k] (t.data.toList.drop (k + 1)))) w) := by
  unfold maxLen at hs
  have hl : k < t.data.toList.length := by simpa using hk
  have g1 : Lx.isLetter t[k] = false := by have := h; simp [Lx.isRest] at this; exact this.1.1
  have g2 : Lx.isDigit t[k] = false := by have := h; simp [Lx.isRest] at this; exact this.1.2
  have g3 : ((t[k].toNat : Int) == 34) = false := u8_ne (d := 34) (by have := h; simp [Lx.isRest] at this; exact this.2)
  have h' := hid h
  clear h
  have g4 : hasB ⟨#[33, 60, 62]⟩ t[k] = true := (hasB_mark _).2 hc
  have g5 : ((t[k + 1].toNat : Int) == 61) = true := u8_eq (d := 61) he
  have hc' := hid hc
  have he' := hid he
  clear hc he
  go_enter Tryz.func55, Tryz.ntmps55
  go_wp2_with (first | (go_at_call 59; refine (letter_any _ _).mono ?_; rintro e w' ⟨rfl, rfl⟩) | (go_at_call 72; refine (digit_any _ _).mono ?_; rintro e w' ⟨rfl, rfl⟩) | (go_at_call 58; refine (word_any _ _).mono ?_; rintro e w' ⟨rfl, rfl⟩) | (go_at_call 71; refine (has_any _ _ _ (by decide)).mono ?_; rintro e w' ⟨rfl, rfl⟩))
  refine post_cell_tmp rfl (v := .agg #[.int .i64 4, .int .i64 k, .int .i64 0, .string (t.extract k (k + 2))]) (x := .int .i64 0) rfl (by simp [go_sem]) rfl rfl ?_
  exact rnext_done (Lx.next_two (by simpa using hk1) h'.out hc'.out he'.out) (by rw [extract_bs, Nat.add_sub_cancel_left]; rfl) (by repeat (first | exact Below.refl _ _ | refine Below.alloc ?_ (by simp) _ | refine below_drewN ?_ _ | refine Below.drew ?_))

set_option maxRecDepth 100000 in
set_option maxHeartbeats 800000 in
theorem rnext_one_plain (t : ByteArray) (k : Nat) (w : World) (hs : t.size ≤ maxLen) (hk : k < t.size) (h : Lx.isRest t[k] = true) (hc : ¬ (t[k] = 33 ∨ Lx.isAngle t[k] = true)) (hs' : Lx.isAngle t[k] = true ∨ Lx.isPlain t[k] = true) :
    Calls Tryz.prog 55 #[.string t, .int .i64 k] w (Gives (rnextV k (Lx.nextTok t[k] (t.data.toList.drop (k + 1)))) w) := by
  unfold maxLen at hs
  have hl : k < t.data.toList.length := by simpa using hk
  have g1 : Lx.isLetter t[k] = false := by have := h; simp [Lx.isRest] at this; exact this.1.1
  have g2 : Lx.isDigit t[k] = false := by have := h; simp [Lx.isRest] at this; exact this.1.2
  have g3 : ((t[k].toNat : Int) == 34) = false := u8_ne (d := 34) (by have := h; simp [Lx.isRest] at this; exact this.2)
  have h' := hid h
  clear h
  have g4 : hasB ⟨#[33, 60, 62]⟩ t[k] = false := by rw [Bool.eq_false_iff]; exact fun hh => hc ((hasB_mark _).1 hh)
  have hc' := hid hc
  clear hc
  have g6 : hasB ⟨#[59, 44, 46, 58, 40, 41, 91, 93, 123, 125, 61, 60, 62, 43, 45]⟩ t[k] = true := (hasB_sym _).2 hs'
  have hs2 := hid hs'
  clear hs'
  go_enter Tryz.func55, Tryz.ntmps55
  go_wp2_with (first | (go_at_call 59; refine (letter_any _ _).mono ?_; rintro e w' ⟨rfl, rfl⟩) | (go_at_call 72; refine (digit_any _ _).mono ?_; rintro e w' ⟨rfl, rfl⟩) | (go_at_call 58; refine (word_any _ _).mono ?_; rintro e w' ⟨rfl, rfl⟩) | (go_at_call 71; refine (has_any _ _ _ (by decide)).mono ?_; rintro e w' ⟨rfl, rfl⟩))
  refine post_cell_tmp rfl (v := .agg #[.int .i64 4, .int .i64 k, .int .i64 0, .string (t.extract k (k + 1))]) (x := .int .i64 0) rfl (by simp [go_sem]) rfl rfl ?_
  exact rnext_done (Lx.next_one hl h'.out (fun hc => absurd hc hc'.out) hs2.out) (by rw [extract_bs, Nat.add_sub_cancel_left]; rfl) (by repeat (first | exact Below.refl _ _ | refine Below.alloc ?_ (by simp) _ | refine below_drewN ?_ _ | refine Below.drew ?_))

set_option maxRecDepth 100000 in
set_option maxHeartbeats 800000 in
theorem rnext_bad_plain (t : ByteArray) (k : Nat) (w : World) (hs : t.size ≤ maxLen) (hk : k < t.size) (h : Lx.isRest t[k] = true) (hc : ¬ (t[k] = 33 ∨ Lx.isAngle t[k] = true)) (hs' : Lx.isAngle t[k] = false ∧ Lx.isPlain t[k] = false) :
    Calls Tryz.prog 55 #[.string t, .int .i64 k] w (Gives (rnextV k (Lx.nextTok t[k] (t.data.toList.drop (k + 1)))) w) := by
  unfold maxLen at hs
  have hl : k < t.data.toList.length := by simpa using hk
  have g1 : Lx.isLetter t[k] = false := by have := h; simp [Lx.isRest] at this; exact this.1.1
  have g2 : Lx.isDigit t[k] = false := by have := h; simp [Lx.isRest] at this; exact this.1.2
  have g3 : ((t[k].toNat : Int) == 34) = false := u8_ne (d := 34) (by have := h; simp [Lx.isRest] at this; exact this.2)
  have h' := hid h
  clear h
  have g4 : hasB ⟨#[33, 60, 62]⟩ t[k] = false := by rw [Bool.eq_false_iff]; exact fun hh => hc ((hasB_mark _).1 hh)
  have hc' := hid hc
  clear hc
  have g6 : hasB ⟨#[59, 44, 46, 58, 40, 41, 91, 93, 123, 125, 61, 60, 62, 43, 45]⟩ t[k] = false := by
    rw [Bool.eq_false_iff]; intro hh; rcases (hasB_sym _).1 hh with hh | hh <;> simp [hs'] at hh
  have hs2 := hid hs'
  clear hs'
  go_enter Tryz.func55, Tryz.ntmps55
  go_wp2_with (first | (go_at_call 59; refine (letter_any _ _).mono ?_; rintro e w' ⟨rfl, rfl⟩) | (go_at_call 72; refine (digit_any _ _).mono ?_; rintro e w' ⟨rfl, rfl⟩) | (go_at_call 58; refine (word_any _ _).mono ?_; rintro e w' ⟨rfl, rfl⟩) | (go_at_call 71; refine (has_any _ _ _ (by decide)).mono ?_; rintro e w' ⟨rfl, rfl⟩))
  refine post_cell_tmp rfl (v := tok0) (x := .int .i64 3) rfl (by simp [go_sem, tok0]) rfl rfl ?_
  exact rnext_done (Lx.next_bad hl h'.out (fun hc => absurd hc hc'.out) hs2.out) rfl (by repeat (first | exact Below.refl _ _ | refine Below.alloc ?_ (by simp) _ | refine below_drewN ?_ _ | refine Below.drew ?_))

set_option maxRecDepth 100000 in
set_option maxHeartbeats 800000 in
theorem rnext_one_end (t : ByteArray) (k : Nat) (w : World) (hs : t.size ≤ maxLen) (hk : k < t.size) (h : Lx.isRest t[k] = true) (hk1 : ¬ k + 1 < t.size) (hc : t[k] = 33 ∨ Lx.isAngle t[k] = true) (hs' : Lx.isAngle t[k] = true ∨ Lx.isPlain t[k] = true) :
    Calls Tryz.prog 55 #[.string t, .int .i64 k] w (Gives (rnextV k (Lx.nextTok t[k] (t.data.toList.drop (k + 1)))) w) := by
  unfold maxLen at hs
  have hl : k < t.data.toList.length := by simpa using hk
  have g1 : Lx.isLetter t[k] = false := by have := h; simp [Lx.isRest] at this; exact this.1.1
  have g2 : Lx.isDigit t[k] = false := by have := h; simp [Lx.isRest] at this; exact this.1.2
  have g3 : ((t[k].toNat : Int) == 34) = false := u8_ne (d := 34) (by have := h; simp [Lx.isRest] at this; exact this.2)
  have h' := hid h
  clear h
  have g4 : hasB ⟨#[33, 60, 62]⟩ t[k] = true := (hasB_mark _).2 hc
  have hc' := hid hc
  clear hc
  have g6 : hasB ⟨#[59, 44, 46, 58, 40, 41, 91, 93, 123, 125, 61, 60, 62, 43, 45]⟩ t[k] = true := (hasB_sym _).2 hs'
  have hs2 := hid hs'
  clear hs'
  go_enter Tryz.func55, Tryz.ntmps55
  go_wp2_with (first | (go_at_call 59; refine (letter_any _ _).mono ?_; rintro e w' ⟨rfl, rfl⟩) | (go_at_call 72; refine (digit_any _ _).mono ?_; rintro e w' ⟨rfl, rfl⟩) | (go_at_call 58; refine (word_any _ _).mono ?_; rintro e w' ⟨rfl, rfl⟩) | (go_at_call 71; refine (has_any _ _ _ (by decide)).mono ?_; rintro e w' ⟨rfl, rfl⟩))
  refine post_cell_tmp rfl (v := .agg #[.int .i64 4, .int .i64 k, .int .i64 0, .string (t.extract k (k + 1))]) (x := .int .i64 0) rfl (by simp [go_sem]) rfl rfl ?_
  exact rnext_done (Lx.next_one hl h'.out (fun _ hh => absurd hh (by simpa using hk1)) hs2.out) (by rw [extract_bs, Nat.add_sub_cancel_left]; rfl) (by repeat (first | exact Below.refl _ _ | refine Below.alloc ?_ (by simp) _ | refine below_drewN ?_ _ | refine Below.drew ?_))

set_option maxRecDepth 100000 in
set_option maxHeartbeats 800000 in
theorem rnext_bad_end (t : ByteArray) (k : Nat) (w : World) (hs : t.size ≤ maxLen) (hk : k < t.size) (h : Lx.isRest t[k] = true) (hk1 : ¬ k + 1 < t.size) (hc : t[k] = 33 ∨ Lx.isAngle t[k] = true) (hs' : Lx.isAngle t[k] = false ∧ Lx.isPlain t[k] = false) :
    Calls Tryz.prog 55 #[.string t, .int .i64 k] w (Gives (rnextV k (Lx.nextTok t[k] (t.data.toList.drop (k + 1)))) w) := by
  unfold maxLen at hs
  have hl : k < t.data.toList.length := by simpa using hk
  have g1 : Lx.isLetter t[k] = false := by have := h; simp [Lx.isRest] at this; exact this.1.1
  have g2 : Lx.isDigit t[k] = false := by have := h; simp [Lx.isRest] at this; exact this.1.2
  have g3 : ((t[k].toNat : Int) == 34) = false := u8_ne (d := 34) (by have := h; simp [Lx.isRest] at this; exact this.2)
  have h' := hid h
  clear h
  have g4 : hasB ⟨#[33, 60, 62]⟩ t[k] = true := (hasB_mark _).2 hc
  have hc' := hid hc
  clear hc
  have g6 : hasB ⟨#[59, 44, 46, 58, 40, 41, 91, 93, 123, 125, 61, 60, 62, 43, 45]⟩ t[k] = false := by
    rw [Bool.eq_false_iff]; intro hh; rcases (hasB_sym _).1 hh with hh | hh <;> simp [hs'] at hh
  have hs2 := hid hs'
  clear hs'
  go_enter Tryz.func55, Tryz.ntmps55
  go_wp2_with (first | (go_at_call 59; refine (letter_any _ _).mono ?_; rintro e w' ⟨rfl, rfl⟩) | (go_at_call 72; refine (digit_any _ _).mono ?_; rintro e w' ⟨rfl, rfl⟩) | (go_at_call 58; refine (word_any _ _).mono ?_; rintro e w' ⟨rfl, rfl⟩) | (go_at_call 71; refine (has_any _ _ _ (by decide)).mono ?_; rintro e w' ⟨rfl, rfl⟩))
  refine post_cell_tmp rfl (v := tok0) (x := .int .i64 3) rfl (by simp [go_sem, tok0]) rfl rfl ?_
  exact rnext_done (Lx.next_bad hl h'.out (fun _ hh => absurd hh (by simpa using hk1)) hs2.out) rfl (by repeat (first | exact Below.refl _ _ | refine Below.alloc ?_ (by simp) _ | refine below_drewN ?_ _ | refine Below.drew ?_))

set_option maxRecDepth 100000 in
set_option maxHeartbeats 800000 in
theorem rnext_one_else (t : ByteArray) (k : Nat) (w : World) (hs : t.size ≤ maxLen) (hk : k < t.size) (h : Lx.isRest t[k] = true) (hk1 : k + 1 < t.size) (hc : t[k] = 33 ∨ Lx.isAngle t[k] = true) (he : t[k + 1] ≠ 61) (hs' : Lx.isAngle t[k] = true ∨ Lx.isPlain t[k] = true) :
    Calls Tryz.prog 55 #[.string t, .int .i64 k] w (Gives (rnextV k (Lx.nextTok t[k] (t.data.toList.drop (k + 1)))) w) := by
  unfold maxLen at hs
  have hl : k < t.data.toList.length := by simpa using hk
  have g1 : Lx.isLetter t[k] = false := by have := h; simp [Lx.isRest] at this; exact this.1.1
  have g2 : Lx.isDigit t[k] = false := by have := h; simp [Lx.isRest] at this; exact this.1.2
  have g3 : ((t[k].toNat : Int) == 34) = false := u8_ne (d := 34) (by have := h; simp [Lx.isRest] at this; exact this.2)
  have h' := hid h
  clear h
  have g4 : hasB ⟨#[33, 60, 62]⟩ t[k] = true := (hasB_mark _).2 hc
  have g5 : ((t[k + 1].toNat : Int) == 61) = false := u8_ne (d := 61) he
  have hc' := hid hc
  have he' := hid he
  clear hc he
  have g6 : hasB ⟨#[59, 44, 46, 58, 40, 41, 91, 93, 123, 125, 61, 60, 62, 43, 45]⟩ t[k] = true := (hasB_sym _).2 hs'
  have hs2 := hid hs'
  clear hs'
  go_enter Tryz.func55, Tryz.ntmps55
  go_wp2_with (first | (go_at_call 59; refine (letter_any _ _).mono ?_; rintro e w' ⟨rfl, rfl⟩) | (go_at_call 72; refine (digit_any _ _).mono ?_; rintro e w' ⟨rfl, rfl⟩) | (go_at_call 58; refine (word_any _ _).mono ?_; rintro e w' ⟨rfl, rfl⟩) | (go_at_call 71; refine (has_any _ _ _ (by decide)).mono ?_; rintro e w' ⟨rfl, rfl⟩))
  refine post_cell_tmp rfl (v := .agg #[.int .i64 4, .int .i64 k, .int .i64 0, .string (t.extract k (k + 1))]) (x := .int .i64 0) rfl (by simp [go_sem]) rfl rfl ?_
  exact rnext_done (Lx.next_one hl h'.out (fun _ hh => he'.out) hs2.out) (by rw [extract_bs, Nat.add_sub_cancel_left]; rfl) (by repeat (first | exact Below.refl _ _ | refine Below.alloc ?_ (by simp) _ | refine below_drewN ?_ _ | refine Below.drew ?_))

set_option maxRecDepth 100000 in
set_option maxHeartbeats 800000 in
theorem rnext_bad_else (t : ByteArray) (k : Nat) (w : World) (hs : t.size ≤ maxLen) (hk : k < t.size) (h : Lx.isRest t[k] = true) (hk1 : k + 1 < t.size) (hc : t[k] = 33 ∨ Lx.isAngle t[k] = true) (he : t[k + 1] ≠ 61) (hs' : Lx.isAngle t[k] = false ∧ Lx.isPlain t[k] = false) :
    Calls Tryz.prog 55 #[.string t, .int .i64 k] w (Gives (rnextV k (Lx.nextTok t[k] (t.data.toList.drop (k + 1)))) w) := by
  unfold maxLen at hs
  have hl : k < t.data.toList.length := by simpa using hk
  have g1 : Lx.isLetter t[k] = false := by have := h; simp [Lx.isRest] at this; exact this.1.1
  have g2 : Lx.isDigit t[k] = false := by have := h; simp [Lx.isRest] at this; exact this.1.2
  have g3 : ((t[k].toNat : Int) == 34) = false := u8_ne (d := 34) (by have := h; simp [Lx.isRest] at this; exact this.2)
  have h' := hid h
  clear h
  have g4 : hasB ⟨#[33, 60, 62]⟩ t[k] = true := (hasB_mark _).2 hc
  have g5 : ((t[k + 1].toNat : Int) == 61) = false := u8_ne (d := 61) he
  have hc' := hid hc
  have he' := hid he
  clear hc he
  have g6 : hasB ⟨#[59, 44, 46, 58, 40, 41, 91, 93, 123, 125, 61, 60, 62, 43, 45]⟩ t[k] = false := by
    rw [Bool.eq_false_iff]; intro hh; rcases (hasB_sym _).1 hh with hh | hh <;> simp [hs'] at hh
  have hs2 := hid hs'
  clear hs'
  go_enter Tryz.func55, Tryz.ntmps55
  go_wp2_with (first | (go_at_call 59; refine (letter_any _ _).mono ?_; rintro e w' ⟨rfl, rfl⟩) | (go_at_call 72; refine (digit_any _ _).mono ?_; rintro e w' ⟨rfl, rfl⟩) | (go_at_call 58; refine (word_any _ _).mono ?_; rintro e w' ⟨rfl, rfl⟩) | (go_at_call 71; refine (has_any _ _ _ (by decide)).mono ?_; rintro e w' ⟨rfl, rfl⟩))
  refine post_cell_tmp rfl (v := tok0) (x := .int .i64 3) rfl (by simp [go_sem, tok0]) rfl rfl ?_
  exact rnext_done (Lx.next_bad hl h'.out (fun _ hh => he'.out) hs2.out) rfl (by repeat (first | exact Below.refl _ _ | refine Below.alloc ?_ (by simp) _ | refine below_drewN ?_ _ | refine Below.drew ?_))

end Go.Proofs.YteogmlgmodeajaaGreatDoor
