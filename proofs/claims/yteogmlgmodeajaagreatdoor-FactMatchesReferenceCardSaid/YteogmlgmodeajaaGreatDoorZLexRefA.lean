/-
  What the reference lexer's small functions return: letter, digit, word, has, gap, Gaps, Name. Conditions: lengths within Go's own bound.
-/
import Derived.Test.YteogmlgmodeajaaGreatDoorZMBase
import Derived.Test.YteogmlgmodeajaaGreatDoorZLexAid
namespace Go.Proofs.YteogmlgmodeajaaGreatDoor
open Go.RowKit

theorem letter_iff (c : UInt8) : Lx.isLetter c = true ↔ (97 ≤ c.toNat ∧ c.toNat ≤ 122) ∨ (65 ≤ c.toNat ∧ c.toNat ≤ 90) := by
  simp [Lx.isLetter, UInt8.le_iff_toNat_le]
theorem digit_iff (c : UInt8) : Lx.isDigit c = true ↔ (48 ≤ c.toNat ∧ c.toNat ≤ 57) := by
  simp [Lx.isDigit, UInt8.le_iff_toNat_le]

set_option maxHeartbeats 400000 in
theorem letter_any (c : UInt8) (w : World) : Calls Tryz.prog 59 #[.int .u8 c.toNat] w (Same (.bool (Lx.isLetter c)) w) := by
  go_enter Tryz.func59, Tryz.ntmps59
  go_wp2
  all_goals (go_ret; refine ⟨ret_bool ?_, rfl⟩; rw [Bool.eq_iff_iff, letter_iff]; simp only [Bool.or_eq_true, decide_eq_true_eq, iff_true, true_iff, iff_false, false_iff, Bool.false_eq_true]; omega)

set_option maxHeartbeats 400000 in
theorem digit_any (c : UInt8) (w : World) : Calls Tryz.prog 72 #[.int .u8 c.toNat] w (Same (.bool (Lx.isDigit c)) w) := by
  go_enter Tryz.func72, Tryz.ntmps72
  go_wp2
  all_goals (go_ret; refine ⟨ret_bool ?_, rfl⟩; rw [Bool.eq_iff_iff, digit_iff]; simp only [Bool.or_eq_true, decide_eq_true_eq, iff_true, true_iff, iff_false, false_iff, Bool.false_eq_true]; omega)

set_option maxHeartbeats 400000 in
theorem word_any (c : UInt8) (w : World) : Calls Tryz.prog 58 #[.int .u8 c.toNat] w (Same (.bool (Lx.isWord c)) w) := by
  go_enter Tryz.func58, Tryz.ntmps58
  go_wp2_with (first
    | (go_at_call 59; refine (letter_any _ _).mono ?_; rintro e w' ⟨rfl, rfl⟩)
    | (go_at_call 72; refine (digit_any _ _).mono ?_; rintro e w' ⟨rfl, rfl⟩))
  all_goals (go_ret; refine ⟨ret_bool ?_, rfl⟩; simp [Lx.isWord, *])
  all_goals exact u8_beq c 95

/-- is the byte one of the text's? -/
def hasB (t : ByteArray) (c : UInt8) : Bool := t.data.toList.contains c

set_option maxHeartbeats 400000 in
theorem has_any (t : ByteArray) (c : UInt8) (w : World) (hs : t.size ≤ maxLen) :
    Calls Tryz.prog 71 #[.string t, .int .u8 c.toNat] w (Same (.bool (hasB t c)) w) := by
  unfold maxLen at hs
  go_enter Tryz.func71, Tryz.ntmps71
  go_wp2
  go_loop [5] (fun i => ∃ k : Nat, k ≤ t.size ∧ i = .int .i64 k ∧ Hid ((t.data.toList.take k).contains c = false)) (fun i => t.size - (intOf i).toNat)
  case atStart => exact ⟨0, Nat.zero_le _, rfl, by simp [Hid]⟩
  case round =>
    obtain ⟨k, hk, rfl, hn⟩ := hrel
    by_cases hlt : k < t.size
    · have HT := hid (show t.data.toList.take (k + 1) = t.data.toList.take k ++ [t[k]] by
        rw [List.take_succ_eq_append_getElem (by simpa using hlt)]; rfl)
      have hmem : t[k] ∈ t.data.toList := by
        have : t[k] = t.data.toList[k]'(by simpa using hlt) := rfl
        rw [this]; exact List.getElem_mem _
      by_cases he : t[k] = c
      · have h1 : ((t[k].toNat : Int) == (c.toNat : Int)) = true := u8_eq he
        have H2 : Hid (hasB t c = true) := by rw [he] at hmem; exact List.contains_iff_mem.2 hmem
        clear HT hmem he
        go_wp2
        go_ret
        exact ⟨ret_bool H2.out.symm, rfl⟩
      · have h1 : ((t[k].toNat : Int) == (c.toNat : Int)) = false := u8_ne he
        have H2 : Hid ((t.data.toList.take (k + 1)).contains c = false) := by
          show _ = _
          rw [HT.out, List.contains_eq_any_beq, List.any_append, ← List.contains_eq_any_beq, hn.out]
          simp
          exact fun h => he h.symm
        clear HT hmem he hn
        go_wp2
        go_round
        case rel => exact ⟨k + 1, by omega, by go_num, H2⟩
        case measure => simp [intOf]; omega
    · go_wp2
      go_ret
      exact ⟨ret_bool (by have := hn.out; rw [List.take_of_length_le (by simp; omega)] at this; exact this.symm), rfl⟩

theorem hasB_blank (c : UInt8) : hasB ⟨#[32, 9, 10]⟩ c = Lx.isBlank c := by
  rw [Bool.eq_iff_iff]; simp [hasB, Lx.isBlank, or_assoc]

theorem rgap_core (t : ByteArray) (E : Nat) (k : Nat) (w : World) (hs : t.size ≤ maxLen) (hk0 : k ≤ t.size) (HG : Hid (Lx.gapTo false t.data.toList k = E)) :
    Calls Tryz.prog 54 #[.string t, .int .i64 k] w (Same (.int .i64 E) w) := by
  unfold maxLen at hs
  go_enter Tryz.func54, Tryz.ntmps54
  go_wp2
  go_loop [1] (fun i => ∃ k : Nat, k ≤ t.size ∧ i = .int .i64 k ∧ Hid (Lx.gapTo false t.data.toList k = E)) (fun i => t.size - (intOf i).toNat)
  case atStart => exact ⟨k, hk0, rfl, HG⟩
  case round =>
    obtain ⟨k, hk, rfl, hn⟩ := hrel
    by_cases hlt : k < t.size
    · have hl : k < t.data.toList.length := by simpa using hlt
      have ht : t.data.toList[k] = t[k] := rfl
      by_cases hb : Lx.isBlank t[k] = true
      · have h1 : hasB ⟨#[32, 9, 10]⟩ t[k] = true := by rw [hasB_blank]; exact hb
        have H2 : Hid (Lx.gapTo false t.data.toList (k + 1) = E) := (Lx.gapTo_blank hl hb).trans hn.out
        clear hb ht hn
        go_wp2_with (go_at_call 71; refine (has_any _ _ _ (by decide)).mono ?_; rintro e w' ⟨rfl, rfl⟩)
        go_round
        case rel => exact ⟨k + 1, by omega, by go_num, H2⟩
        case measure => simp [intOf]; omega
      · have h1 : hasB ⟨#[32, 9, 10]⟩ t[k] = false := by rw [hasB_blank]; simpa using hb
        by_cases hh : t[k] = 35
        · have h3 : ((t[k].toNat : Int) == 35) = true := u8_eq (d := 35) hh
          have H2 : Hid (Lx.gapTo true t.data.toList k = E) := by
            have a := Lx.gapTo_hash hl hh
            have b : Lx.gapTo true t.data.toList (k + 1) = Lx.gapTo true t.data.toList k := Lx.gapTo_in hl (by show t[k] ≠ 10; rw [hh]; decide)
            exact (b.symm.trans a).trans hn.out
          have hh' := hid hh
          clear hb ht hn hh
          go_wp2_with (go_at_call 71; refine (has_any _ _ _ (by decide)).mono ?_; rintro e w' ⟨rfl, rfl⟩)
          go_loop [1] (fun i => ∃ j : Nat, k ≤ j ∧ j ≤ t.size ∧ i = .int .i64 j ∧ Hid (Lx.gapTo true t.data.toList j = E)) (fun i => t.size - (intOf i).toNat)
          case atStart => exact ⟨k, Nat.le_refl _, hk, rfl, H2⟩
          case round =>
            obtain ⟨j, hkj, hj, rfl, hm⟩ := hrel
            by_cases hjt : j < t.size
            · have hl' : j < t.data.toList.length := by simpa using hjt
              by_cases h10 : t[j] = 10
              · have h4 : ((t[j].toNat : Int) != 10) = false := u8_bne_f (d := 10) h10
                have H5 : Hid (Lx.gapTo false t.data.toList j = E) := (Lx.gapTo_out hl' h10).trans hm.out
                have hne : k < j := by
                  have : k ≠ j := fun e => by subst e; rw [hh'.out] at h10; exact absurd h10 (by decide)
                  omega
                clear hm h10
                go_wp2
                go_round
                case rel => exact ⟨j, hj, rfl, H5⟩
                case measure => simp [intOf]; omega
              · have h4 : ((t[j].toNat : Int) != 10) = true := u8_bne_t (d := 10) h10
                have H5 : Hid (Lx.gapTo true t.data.toList (j + 1) = E) := (Lx.gapTo_in hl' h10).trans hm.out
                clear hm h10
                go_wp2
                go_round
                case rel => exact ⟨j + 1, by omega, by omega, by go_num, H5⟩
                case measure => simp [intOf]; omega
            · have H5 : Hid (Lx.gapTo false t.data.toList j = E) := by
                have a : Lx.gapTo true t.data.toList j = t.size := Lx.gapTo_end (by simpa using Nat.le_of_not_lt hjt)
                have b : Lx.gapTo false t.data.toList j = t.size := Lx.gapTo_end (by simpa using Nat.le_of_not_lt hjt)
                exact (b.trans a.symm).trans hm.out
              clear hm
              go_wp2
              go_round
              case rel => exact ⟨j, hj, rfl, H5⟩
              case measure => simp [intOf]; omega
        · have h3 : ((t[k].toNat : Int) == 35) = false := u8_ne (d := 35) hh
          have H2 : Hid (k = E) := (Lx.gapTo_stop hl (Bool.eq_false_iff.2 hb) hh).symm.trans hn.out
          clear hb ht hn hh
          go_wp2_with (go_at_call 71; refine (has_any _ _ _ (by decide)).mono ?_; rintro e w' ⟨rfl, rfl⟩)
          go_ret
          exact ⟨ret_nat H2.out, rfl⟩
    · have H2 : Hid (k = E) := by
        have : Lx.gapTo false t.data.toList k = t.size := Lx.gapTo_end (by simpa using Nat.le_of_not_lt hlt)
        exact (show k = t.size by omega).trans (this.symm.trans hn.out)
      go_wp2
      go_ret
      exact ⟨ret_nat H2.out, rfl⟩

end Go.Proofs.YteogmlgmodeajaaGreatDoor
