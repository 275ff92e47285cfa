/-
  What the reference lexer's 'next' returns at a digit, and at every byte. Conditions: the offset lies in the text; lengths within Go's own bound.
-/
import Derived.Test.YteogmlgmodeajaaGreatDoorZLexRefB
namespace Go.Proofs.YteogmlgmodeajaaGreatDoor
open Go.RowKit

set_option maxRecDepth 100000 in
set_option maxHeartbeats 800000 in
theorem rnext_digit_err (t : ByteArray) (k E : Nat) (w : World) (hs : t.size ≤ maxLen) (hk : k < t.size) (h : Lx.isDigit t[k] = true)
    (hE : Hid (Lx.run Lx.isDigit t.data.toList (k + 1) = E)) (hbad : 13 < E - k ∨ ∃ hh : E < t.size, Lx.isWord t[E] = true) :
    Calls Tryz.prog 55 #[.string t, .int .i64 k] w (Gives (rnextV k (Lx.nextTok t[k] (t.data.toList.drop (k + 1)))) w) := by
  unfold maxLen at hs
  have hl : k < t.data.toList.length := by simpa using hk
  have g1 : Lx.isLetter t[k] = false := Lx.letter_of_digit h
  have hbad' := hid hbad
  clear hbad
  go_enter Tryz.func55, Tryz.ntmps55
  go_wp2_with (first | (go_at_call 59; refine (letter_any _ _).mono ?_; rintro e w' ⟨rfl, rfl⟩) | (go_at_call 72; refine (digit_any _ _).mono ?_; rintro e w' ⟨rfl, rfl⟩))
  go_loop [6] (fun i => ∃ j : Nat, k < j ∧ j ≤ t.size ∧ i = .int .i64 j ∧ Hid (Lx.run Lx.isDigit t.data.toList j = E)) (fun i => t.size - (intOf i).toNat)
  case atStart => exact ⟨k + 1, by omega, by omega, by go_num, hE⟩
  case round =>
    obtain ⟨j, hkj, hj, rfl, hm⟩ := hrel
    by_cases hjd : ∃ hh : j < t.size, Lx.isDigit t[j] = true
    · obtain ⟨hjt, hd⟩ := hjd
      have hl' : j < t.data.toList.length := by simpa using hjt
      have H5 : Hid (Lx.run Lx.isDigit t.data.toList (j + 1) = E) := (Lx.run_step hl' hd).trans hm.out
      clear hm
      go_wp2_with (go_at_call 72; refine (digit_any _ _).mono ?_; rintro e w' ⟨rfl, rfl⟩)
      go_round
      case rel => exact ⟨j + 1, by omega, by omega, by go_num, H5⟩
      case measure => simp [intOf]; omega
    · have hjE : j = E := (Lx.run_stop (l := t.data.toList) (fun hh => Bool.eq_false_iff.2 fun hd => hjd ⟨by simpa using hh, hd⟩)).symm.trans hm.out
      clear hm
      subst hjE
      by_cases hlong : 13 < j - k
      · have hgt : (13 : Int) < (j : Int) - (k : Int) := by omega
        by_cases hjt : j < t.size
        · have hd : Lx.isDigit t[j] = false := Bool.eq_false_iff.2 fun hd => hjd ⟨hjt, hd⟩
          clear hjd
          go_wp2_with (go_at_call 72; refine (digit_any _ _).mono ?_; rintro e w' ⟨rfl, rfl⟩)
          refine post_cell_tmp rfl (v := tok0) (x := .int .i64 4) rfl (by simp [go_sem, tok0]) rfl rfl ?_
          exact rnext_done (Lx.next_digit_err hl h (.inl (by rw [hE.out]; omega))) rfl (by repeat (first | exact Below.refl _ _ | refine Below.alloc ?_ (by simp) _))
        · clear hjd
          go_wp2
          refine post_cell_tmp rfl (v := tok0) (x := .int .i64 4) rfl (by simp [go_sem, tok0]) rfl rfl ?_
          exact rnext_done (Lx.next_digit_err hl h (.inl (by rw [hE.out]; omega))) rfl (by repeat (first | exact Below.refl _ _ | refine Below.alloc ?_ (by simp) _))
      · have hle : (j : Int) - (k : Int) ≤ 13 := by omega
        obtain ⟨hjt, hw⟩ := hbad'.out.resolve_left hlong
        have hd : Lx.isDigit t[j] = false := Bool.eq_false_iff.2 fun hd => hjd ⟨hjt, hd⟩
        clear hjd
        go_wp2_with (first | (go_at_call 72; refine (digit_any _ _).mono ?_; rintro e w' ⟨rfl, rfl⟩) | (go_at_call 58; refine (word_any _ _).mono ?_; rintro e w' ⟨rfl, rfl⟩))
        refine post_cell_tmp rfl (v := tok0) (x := .int .i64 4) rfl (by simp [go_sem, tok0]) rfl rfl ?_
        exact rnext_done (Lx.next_digit_err hl h (.inr (by simp only [hE.out]; exact ⟨by simpa using hjt, hw⟩))) rfl (by repeat (first | exact Below.refl _ _ | refine Below.alloc ?_ (by simp) _))

theorem u8_sub48 {c : UInt8} (h : Lx.isDigit c = true) : 48 ≤ (c.toNat : Int) ∧ (c.toNat : Int) ≤ 57 := by
  have := (digit_iff c).1 h
  omega

/-- the number that the digits from k to m make -/
def numAt (t : ByteArray) (k m : Nat) : Nat := Lx.value ((t.data.toList.drop k).take (m - k))
theorem numAt_self (t : ByteArray) (k : Nat) : numAt t k k = 0 := by simp [numAt, Lx.value]
theorem numAt_step {t : ByteArray} {k m : Nat} (hkm : k ≤ m) (hm : m < t.size) : numAt t k (m + 1) = 10 * numAt t k m + (t[m].toNat - 48) :=
  Lx.value_step (l := t.data.toList) (by simpa using hm) hkm
theorem num_digit {t : ByteArray} {k j m : Nat} (hE : Lx.run Lx.isDigit t.data.toList k = j) (hkm : k ≤ m) (hlt : m < j) (hm : m < t.size) : Lx.isDigit t[m] = true :=
  Lx.digit_in (l := t.data.toList) hkm (by rw [hE]; exact hlt) (by simpa using hm)
theorem num_lt {t : ByteArray} {k j m : Nat} (hE : Lx.run Lx.isDigit t.data.toList k = j) (h13 : j - k ≤ 13) (hm : m ≤ j) : (numAt t k m : Int) < 10000000000000 := by
  have := Lx.value_bound (l := t.data.toList) (k := k) (m := m) (by rw [hE]; exact hm) (by rw [hE]; omega)
  unfold numAt
  omega

theorem numAt_stepZ {t : ByteArray} {k m : Nat} (hkm : k ≤ m) (hm : m < t.size) (h48 : 48 ≤ (t[m].toNat : Int)) : (numAt t k (m + 1) : Int) = 10 * (numAt t k m : Int) + ((t[m].toNat : Int) - 48) := by
  rw [numAt_step hkm hm]; omega

set_option maxRecDepth 100000 in
set_option maxHeartbeats 1600000 in
theorem rnext_digit_ok (t : ByteArray) (k E : Nat) (w : World) (hs : t.size ≤ maxLen) (hk : k < t.size) (h : Lx.isDigit t[k] = true)
    (hE : Hid (Lx.run Lx.isDigit t.data.toList (k + 1) = E)) (h13 : E - k ≤ 13) (hgood : Hid (∀ hh : E < t.size, Lx.isWord t[E] = false)) :
    Calls Tryz.prog 55 #[.string t, .int .i64 k] w (Gives (rnextV k (Lx.nextTok t[k] (t.data.toList.drop (k + 1)))) w) := by
  unfold maxLen at hs
  have hl : k < t.data.toList.length := by simpa using hk
  have g1 : Lx.isLetter t[k] = false := Lx.letter_of_digit h
  have hEk : Hid (Lx.run Lx.isDigit t.data.toList k = E) := (Lx.run_step hl h).symm.trans hE.out
  have hkE : k < E := by have := Lx.run_ge Lx.isDigit t.data.toList (k + 1); rw [hE.out] at this; omega
  have hEs : E ≤ t.size := by have := Lx.run_le Lx.isDigit t.data.toList (k + 1) (by simp; omega); rw [hE.out] at this; simpa using this
  go_enter Tryz.func55, Tryz.ntmps55
  go_wp2_with (first | (go_at_call 59; refine (letter_any _ _).mono ?_; rintro e w' ⟨rfl, rfl⟩) | (go_at_call 72; refine (digit_any _ _).mono ?_; rintro e w' ⟨rfl, rfl⟩))
  go_loop [6] (fun i => ∃ j : Nat, k < j ∧ j ≤ t.size ∧ i = .int .i64 j ∧ Hid (Lx.run Lx.isDigit t.data.toList j = E)) (fun i => t.size - (intOf i).toNat)
  case atStart => exact ⟨k + 1, by omega, by omega, by go_num, hE⟩
  case round =>
    obtain ⟨j, hkj, hj, rfl, hm⟩ := hrel
    by_cases hjd : ∃ hh : j < t.size, Lx.isDigit t[j] = true
    · obtain ⟨hjt, hd⟩ := hjd
      have hl' : j < t.data.toList.length := by simpa using hjt
      have H5 : Hid (Lx.run Lx.isDigit t.data.toList (j + 1) = E) := (Lx.run_step hl' hd).trans hm.out
      clear hm
      go_wp2_with (go_at_call 72; refine (digit_any _ _).mono ?_; rintro e w' ⟨rfl, rfl⟩)
      go_round
      case rel => exact ⟨j + 1, by omega, by omega, by go_num, H5⟩
      case measure => simp [intOf]; omega
    · have hjE : j = E := (Lx.run_stop (l := t.data.toList) (fun hh => Bool.eq_false_iff.2 fun hd => hjd ⟨by simpa using hh, hd⟩)).symm.trans hm.out
      clear hm
      subst hjE
      have hle : (j : Int) - (k : Int) ≤ 13 := by omega
      have hgd := fun hh => Bool.eq_false_iff.2 fun hd => hjd ⟨hh, hd⟩
      clear hjd
      have key : ∀ (a : Act), True := fun _ => trivial
      by_cases hjt : j < t.size
      · have hd : Lx.isDigit t[j] = false := hgd hjt
        have hw : Lx.isWord t[j] = false := hgood.out hjt
        clear hgd key
        go_wp2_with (first | (go_at_call 72; refine (digit_any _ _).mono ?_; rintro e w' ⟨rfl, rfl⟩) | (go_at_call 58; refine (word_any _ _).mono ?_; rintro e w' ⟨rfl, rfl⟩))
        go_loopw [9] (fun i wr => ∃ m q : Nat, k ≤ m ∧ m ≤ j ∧ i = .int .i64 m ∧ wr = ((w.alloc (.cells #[.int .i64 0, .int .i64 0, .int .i64 0, .string ⟨#[]⟩] 58)).alloc (.cells #[.int .i64 2, .int .i64 k, .int .i64 (numAt t k m), .string ⟨#[]⟩] 58)).drewN q) (fun i _ => j - (intOf i).toNat)
        case atStart => exact ⟨k, 0, Nat.le_refl _, by omega, rfl, by rw [numAt_self]; rfl⟩
        case round =>
          obtain ⟨m, q, hkm, hmj, rfl, rfl⟩ := hrel
          by_cases hlt : m < j
          · have hmt : m < t.size := by omega
            obtain ⟨b1, b2⟩ := u8_sub48 (num_digit hEk.out hkm hlt hmt)
            have b3 := num_lt hEk.out h13 hmj
            have HS := hid (numAt_stepZ hkm hmt b1)
            go_wp2
            go_region
            go_wp2
            go_roundw
            case rel => exact ⟨m + 1, q + 1, by omega, by omega, by go_num, by rw [HS.out]⟩
            case measure => simp [intOf]; omega
          · have hmE : m = j := by omega
            subst hmE
            go_wp2
            refine post_cell_tmp rfl (v := .agg #[.int .i64 2, .int .i64 k, .int .i64 (numAt t k m), .string (t.extract k m)]) (x := .int .i64 0) rfl (by simp [go_sem]) rfl rfl ?_
            exact rnext_done (Lx.next_digit_ok hl h (by rw [hE.out]; exact h13) (fun hh => by simp only [hE.out] at hh ⊢; exact hgood.out (by simpa using hh))) (by rw [extract_bs, hE.out]; rfl) (by repeat (first | exact Below.refl _ _ | refine Below.alloc ?_ (by simp) _ | refine below_drewN ?_ _))
      · clear hgd key
        go_wp2
        go_loopw [9] (fun i wr => ∃ m q : Nat, k ≤ m ∧ m ≤ j ∧ i = .int .i64 m ∧ wr = ((w.alloc (.cells #[.int .i64 0, .int .i64 0, .int .i64 0, .string ⟨#[]⟩] 58)).alloc (.cells #[.int .i64 2, .int .i64 k, .int .i64 (numAt t k m), .string ⟨#[]⟩] 58)).drewN q) (fun i _ => j - (intOf i).toNat)
        case atStart => exact ⟨k, 0, Nat.le_refl _, by omega, rfl, by rw [numAt_self]; rfl⟩
        case round =>
          obtain ⟨m, q, hkm, hmj, rfl, rfl⟩ := hrel
          by_cases hlt : m < j
          · have hmt : m < t.size := by omega
            obtain ⟨b1, b2⟩ := u8_sub48 (num_digit hEk.out hkm hlt hmt)
            have b3 := num_lt hEk.out h13 hmj
            have HS := hid (numAt_stepZ hkm hmt b1)
            go_wp2
            go_region
            go_wp2
            go_roundw
            case rel => exact ⟨m + 1, q + 1, by omega, by omega, by go_num, by rw [HS.out]⟩
            case measure => simp [intOf]; omega
          · have hmE : m = j := by omega
            subst hmE
            go_wp2
            refine post_cell_tmp rfl (v := .agg #[.int .i64 2, .int .i64 k, .int .i64 (numAt t k m), .string (t.extract k m)]) (x := .int .i64 0) rfl (by simp [go_sem]) rfl rfl ?_
            exact rnext_done (Lx.next_digit_ok hl h (by rw [hE.out]; exact h13) (fun hh => by simp only [hE.out] at hh ⊢; exact hgood.out (by simpa using hh))) (by rw [extract_bs, hE.out]; rfl) (by repeat (first | exact Below.refl _ _ | refine Below.alloc ?_ (by simp) _ | refine below_drewN ?_ _))

/-- 'next' of the reference at every offset in the text -/
theorem rnext_any (t : ByteArray) (k : Nat) (w : World) (hs : t.size ≤ maxLen) (hk : k < t.size) :
    Calls Tryz.prog 55 #[.string t, .int .i64 k] w (Gives (rnextV k (Lx.nextTok t[k] (t.data.toList.drop (k + 1)))) w) := by
  by_cases h1 : Lx.isLetter t[k] = true
  · exact rnext_letter_core t k _ w hs hk h1 rfl
  by_cases h2 : Lx.isDigit t[k] = true
  · by_cases hbad : 13 < Lx.run Lx.isDigit t.data.toList (k + 1) - k ∨ ∃ hh : Lx.run Lx.isDigit t.data.toList (k + 1) < t.size, Lx.isWord t[Lx.run Lx.isDigit t.data.toList (k + 1)] = true
    · exact rnext_digit_err t k _ w hs hk h2 rfl hbad
    · exact rnext_digit_ok t k _ w hs hk h2 rfl (Nat.le_of_not_lt fun h => hbad (.inl h)) (fun hh => Bool.eq_false_iff.2 fun h => hbad (.inr ⟨hh, h⟩))
  by_cases h3 : t[k] = 34
  · exact rnext_quote_core t k _ w hs hk h3 rfl
  have hr : Lx.isRest t[k] = true := by simp [Lx.isRest, h1, h2, h3]
  by_cases hs' : Lx.isAngle t[k] = true ∨ Lx.isPlain t[k] = true
  · by_cases hc : t[k] = 33 ∨ Lx.isAngle t[k] = true
    · by_cases hk1 : k + 1 < t.size
      · by_cases he : t[k + 1] = 61
        · exact rnext_two t k w hs hk hr hk1 hc he
        · exact rnext_one_else t k w hs hk hr hk1 hc he hs'
      · exact rnext_one_end t k w hs hk hr hk1 hc hs'
    · exact rnext_one_plain t k w hs hk hr hc hs'
  · have hs2 : Lx.isAngle t[k] = false ∧ Lx.isPlain t[k] = false := ⟨Bool.eq_false_iff.2 fun h => hs' (.inl h), Bool.eq_false_iff.2 fun h => hs' (.inr h)⟩
    by_cases hc : t[k] = 33 ∨ Lx.isAngle t[k] = true
    · by_cases hk1 : k + 1 < t.size
      · by_cases he : t[k + 1] = 61
        · exact rnext_two t k w hs hk hr hk1 hc he
        · exact rnext_bad_else t k w hs hk hr hk1 hc he hs2
      · exact rnext_bad_end t k w hs hk hr hk1 hc hs2
    · exact rnext_bad_plain t k w hs hk hr hc hs2

end Go.Proofs.YteogmlgmodeajaaGreatDoor
