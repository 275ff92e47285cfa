/-
  Several texts in one: ZRfL, ZRfS, ZRf13, ZRf14. Conditions: as each law says.
-/
import Derived.Test.YtidkmhokolknbaaGreatDoorZMLexR
import Derived.Test.YtidkmhokolknbaaGreatDoorZMRfA
import Derived.Test.YtidkmhokolknbaaGreatDoorZMLiT
import Derived.Test.YtidkmhokolknbaaGreatDoorZMLiP
import Derived.Test.YtidkmhokolknbaaGreatDoorZMRfB
import Derived.Test.YtidkmhokolknbaaGreatDoorZLiQ
namespace Go.Proofs.YtidkmhokolknbaaGreatDoor
open Go.RowKit

set_option maxHeartbeats 400000 in
theorem rhas_any (t : ByteArray) (c : UInt8) (w : World) (hs : t.size ≤ maxLen) :
    Calls Tryz.prog 100 #[.string t, .int .u8 c.toNat] w (Same (.bool (hasB t c)) w) := by
  unfold maxLen at hs
  go_enter Tryz.func100, Tryz.ntmps100
  go_wp2
  go_loop [5] (fun i => ∃ k : Nat, k ≤ t.size ∧ i = .int .i64 k ∧ Hid ((t.data.toList.take k).contains c = false)) (fun i => t.size - (intOf i).toNat)
  case atStart => exact ⟨0, Nat.zero_le _, rfl, by simp [Hid]⟩
  case round =>
    obtain ⟨k, hk, rfl, hn⟩ := hrel
    by_cases hlt : k < t.size
    · have HT := hid (show t.data.toList.take (k + 1) = t.data.toList.take k ++ [t[k]] by
        rw [List.take_succ_eq_append_getElem (by simpa using hlt)]; rfl)
      have hmem : t[k] ∈ t.data.toList := by
        have : t[k] = t.data.toList[k]'(by simpa using hlt) := rfl
        rw [this]; exact List.getElem_mem _
      by_cases he : t[k] = c
      · have h1 : ((t[k].toNat : Int) == (c.toNat : Int)) = true := u8_eq he
        have H2 : Hid (hasB t c = true) := by rw [he] at hmem; exact List.contains_iff_mem.2 hmem
        clear HT hmem he
        go_wp2
        go_ret
        exact ⟨ret_bool H2.out.symm, rfl⟩
      · have h1 : ((t[k].toNat : Int) == (c.toNat : Int)) = false := u8_ne he
        have H2 : Hid ((t.data.toList.take (k + 1)).contains c = false) := by
          show _ = _
          rw [HT.out, List.contains_eq_any_beq, List.any_append, ← List.contains_eq_any_beq, hn.out]
          simp
          exact fun h => he h.symm
        clear HT hmem he hn
        go_wp2
        go_round
        case rel => exact ⟨k + 1, by omega, by go_num, H2⟩
        case measure => simp [intOf]; omega
    · go_wp2
      go_ret
      exact ⟨ret_bool (by have := hn.out; rw [List.take_of_length_le (by simp; omega)] at this; exact this.symm), rfl⟩

theorem rgap_core (t : ByteArray) (E : Nat) (k : Nat) (w : World) (hs : t.size ≤ maxLen) (hk0 : k ≤ t.size) (HG : Hid (Lx.gapTo false t.data.toList k = E)) :
    Calls Tryz.prog 76 #[.string t, .int .i64 k] w (Same (.int .i64 E) w) := by
  unfold maxLen at hs
  go_enter Tryz.func76, Tryz.ntmps76
  go_wp2
  go_loop [1] (fun i => ∃ k : Nat, k ≤ t.size ∧ i = .int .i64 k ∧ Hid (Lx.gapTo false t.data.toList k = E)) (fun i => t.size - (intOf i).toNat)
  case atStart => exact ⟨k, hk0, rfl, HG⟩
  case round =>
    obtain ⟨k, hk, rfl, hn⟩ := hrel
    by_cases hlt : k < t.size
    · have hl : k < t.data.toList.length := by simpa using hlt
      have ht : t.data.toList[k] = t[k] := rfl
      by_cases hb : Lx.isBlank t[k] = true
      · have h1 : hasB ⟨#[32, 9, 10]⟩ t[k] = true := by rw [hasB_blank]; exact hb
        have H2 : Hid (Lx.gapTo false t.data.toList (k + 1) = E) := (Lx.gapTo_blank hl hb).trans hn.out
        clear hb ht hn
        go_wp2_with (go_at_call 100; refine (rhas_any _ _ _ (by decide)).mono ?_; rintro e w' ⟨rfl, rfl⟩)
        go_round
        case rel => exact ⟨k + 1, by omega, by go_num, H2⟩
        case measure => simp [intOf]; omega
      · have h1 : hasB ⟨#[32, 9, 10]⟩ t[k] = false := by rw [hasB_blank]; simpa using hb
        by_cases hh : t[k] = 35
        · have h3 : ((t[k].toNat : Int) == 35) = true := u8_eq (d := 35) hh
          have H2 : Hid (Lx.gapTo true t.data.toList k = E) := by
            have a := Lx.gapTo_hash hl hh
            have b : Lx.gapTo true t.data.toList (k + 1) = Lx.gapTo true t.data.toList k := Lx.gapTo_in hl (by show t[k] ≠ 10; rw [hh]; decide)
            exact (b.symm.trans a).trans hn.out
          have hh' := hid hh
          clear hb ht hn hh
          go_wp2_with (go_at_call 100; refine (rhas_any _ _ _ (by decide)).mono ?_; rintro e w' ⟨rfl, rfl⟩)
          go_loop [1] (fun i => ∃ j : Nat, k ≤ j ∧ j ≤ t.size ∧ i = .int .i64 j ∧ Hid (Lx.gapTo true t.data.toList j = E)) (fun i => t.size - (intOf i).toNat)
          case atStart => exact ⟨k, Nat.le_refl _, hk, rfl, H2⟩
          case round =>
            obtain ⟨j, hkj, hj, rfl, hm⟩ := hrel
            by_cases hjt : j < t.size
            · have hl' : j < t.data.toList.length := by simpa using hjt
              by_cases h10 : t[j] = 10
              · have h4 : ((t[j].toNat : Int) != 10) = false := u8_bne_f (d := 10) h10
                have H5 : Hid (Lx.gapTo false t.data.toList j = E) := (Lx.gapTo_out hl' h10).trans hm.out
                have hne : k < j := by
                  have : k ≠ j := fun e => by subst e; rw [hh'.out] at h10; exact absurd h10 (by decide)
                  omega
                clear hm h10
                go_wp2
                go_round
                case rel => exact ⟨j, hj, rfl, H5⟩
                case measure => simp [intOf]; omega
              · have h4 : ((t[j].toNat : Int) != 10) = true := u8_bne_t (d := 10) h10
                have H5 : Hid (Lx.gapTo true t.data.toList (j + 1) = E) := (Lx.gapTo_in hl' h10).trans hm.out
                clear hm h10
                go_wp2
                go_round
                case rel => exact ⟨j + 1, by omega, by omega, by go_num, H5⟩
                case measure => simp [intOf]; omega
            · have H5 : Hid (Lx.gapTo false t.data.toList j = E) := by
                have a : Lx.gapTo true t.data.toList j = t.size := Lx.gapTo_end (by simpa using Nat.le_of_not_lt hjt)
                have b : Lx.gapTo false t.data.toList j = t.size := Lx.gapTo_end (by simpa using Nat.le_of_not_lt hjt)
                exact (b.trans a.symm).trans hm.out
              clear hm
              go_wp2
              go_round
              case rel => exact ⟨j, hj, rfl, H5⟩
              case measure => simp [intOf]; omega
        · have h3 : ((t[k].toNat : Int) == 35) = false := u8_ne (d := 35) hh
          have H2 : Hid (k = E) := (Lx.gapTo_stop hl (Bool.eq_false_iff.2 hb) hh).symm.trans hn.out
          clear hb ht hn hh
          go_wp2_with (go_at_call 100; refine (rhas_any _ _ _ (by decide)).mono ?_; rintro e w' ⟨rfl, rfl⟩)
          go_ret
          exact ⟨ret_nat H2.out, rfl⟩
    · have H2 : Hid (k = E) := by
        have : Lx.gapTo false t.data.toList k = t.size := Lx.gapTo_end (by simpa using Nat.le_of_not_lt hlt)
        exact (show k = t.size by omega).trans (this.symm.trans hn.out)
      go_wp2
      go_ret
      exact ⟨ret_nat H2.out, rfl⟩

set_option maxRecDepth 100000 in
set_option maxHeartbeats 800000 in
theorem rnext_letter_core (t : ByteArray) (k E : Nat) (w : World) (hs : t.size ≤ maxLen) (hk : k < t.size) (h : Lx.isLetter t[k] = true)
    (hE : Hid (Lx.run Lx.isWord t.data.toList (k + 1) = E)) :
    Calls Tryz.prog 77 #[.string t, .int .i64 k] w (Gives (rnextV k (Lx.nextTok t[k] (t.data.toList.drop (k + 1)))) w) := by
  unfold maxLen at hs
  go_enter Tryz.func77, Tryz.ntmps77
  go_wp2_with (go_at_call 84; refine (letter_any _ _).mono ?_; rintro e w' ⟨rfl, rfl⟩)
  go_loop [6] (fun i => ∃ j : Nat, k < j ∧ j ≤ t.size ∧ i = .int .i64 j ∧ Hid (Lx.run Lx.isWord t.data.toList j = E)) (fun i => t.size - (intOf i).toNat)
  case atStart => exact ⟨k + 1, by omega, by omega, by go_num, hE⟩
  case round =>
    obtain ⟨j, hkj, hj, rfl, hm⟩ := hrel
    by_cases hjt : j < t.size
    · have hl' : j < t.data.toList.length := by simpa using hjt
      by_cases hw : Lx.isWord t[j] = true
      · have H5 : Hid (Lx.run Lx.isWord t.data.toList (j + 1) = E) := (Lx.run_step hl' hw).trans hm.out
        clear hm
        go_wp2_with (go_at_call 83; refine (word_any _ _).mono ?_; rintro e w' ⟨rfl, rfl⟩)
        go_round
        case rel => exact ⟨j + 1, by omega, by omega, by go_num, H5⟩
        case measure => simp [intOf]; omega
      · have hw' : Lx.isWord t[j] = false := Bool.eq_false_iff.2 hw
        have H5 : Hid (j = E) := (Lx.run_stop (fun _ => hw')).symm.trans hm.out
        clear hm hw
        go_wp2_with (go_at_call 83; refine (word_any _ _).mono ?_; rintro e w' ⟨rfl, rfl⟩)
        · refine post_cell_tmp rfl (v := tok0) (x := .int .i64 2) rfl (by simp [go_sem, tok0]) rfl rfl ?_
          exact rnext_done (Lx.next_letter_err (by simpa using hk) h (by rw [hE.out, ← H5.out]; omega)) rfl (by repeat (first | exact Below.refl _ _ | refine Below.alloc ?_ (by simp) _))
        · refine post_cell_tmp rfl (v := .agg #[.int .i64 1, .int .i64 k, .int .i64 0, .string (t.extract k j)]) (x := .int .i64 0) rfl (by simp [go_sem]) rfl rfl ?_
          exact rnext_done (Lx.next_letter_ok (by simpa using hk) h (by rw [hE.out, ← H5.out]; omega)) (by rw [extract_bs, hE.out, ← H5.out]; rfl) (by repeat (first | exact Below.refl _ _ | refine Below.alloc ?_ (by simp) _))
    · have H5 : Hid (j = E) := (Lx.run_stop (fun hh => absurd hh (by simpa using hjt))).symm.trans hm.out
      clear hm
      go_wp2
      · refine post_cell_tmp rfl (v := tok0) (x := .int .i64 2) rfl (by simp [go_sem, tok0]) rfl rfl ?_
        exact rnext_done (Lx.next_letter_err (by simpa using hk) h (by rw [hE.out, ← H5.out]; omega)) rfl (by repeat (first | exact Below.refl _ _ | refine Below.alloc ?_ (by simp) _))
      · refine post_cell_tmp rfl (v := .agg #[.int .i64 1, .int .i64 k, .int .i64 0, .string (t.extract k j)]) (x := .int .i64 0) rfl (by simp [go_sem]) rfl rfl ?_
        exact rnext_done (Lx.next_letter_ok (by simpa using hk) h (by rw [hE.out, ← H5.out]; omega)) (by rw [extract_bs, hE.out, ← H5.out]; rfl) (by repeat (first | exact Below.refl _ _ | refine Below.alloc ?_ (by simp) _))

set_option maxRecDepth 100000 in
set_option maxHeartbeats 800000 in
theorem rnext_quote_core (t : ByteArray) (k E : Nat) (w : World) (hs : t.size ≤ maxLen) (hk : k < t.size) (h : t[k] = 34)
    (hE : Hid (Lx.run Lx.inBody t.data.toList (k + 1) = E)) :
    Calls Tryz.prog 77 #[.string t, .int .i64 k] w (Gives (rnextV k (Lx.nextTok t[k] (t.data.toList.drop (k + 1)))) w) := by
  unfold maxLen at hs
  have hl : k < t.data.toList.length := by simpa using hk
  have g1 : Lx.isLetter t[k] = false := by rw [h]; decide
  have g2 : Lx.isDigit t[k] = false := by rw [h]; decide
  have g3 : ((t[k].toNat : Int) == 34) = true := u8_eq (d := 34) h
  have h' := hid h
  clear h
  go_enter Tryz.func77, Tryz.ntmps77
  go_wp2_with (first | (go_at_call 84; refine (letter_any _ _).mono ?_; rintro e w' ⟨rfl, rfl⟩) | (go_at_call 101; refine (digit_any _ _).mono ?_; rintro e w' ⟨rfl, rfl⟩))
  go_loop [6] (fun i => ∃ j : Nat, k < j ∧ j ≤ t.size ∧ i = .int .i64 j ∧ Hid (Lx.run Lx.inBody t.data.toList j = E)) (fun i => t.size - (intOf i).toNat)
  case atStart => exact ⟨k + 1, by omega, by omega, by go_num, hE⟩
  case round =>
    obtain ⟨j, hkj, hj, rfl, hm⟩ := hrel
    by_cases hjt : j < t.size
    · have hl' : j < t.data.toList.length := by simpa using hjt
      by_cases h34 : t[j] = 34
      · have q1 : ((t[j].toNat : Int) != 34) = false := u8_bne_f (d := 34) h34
        have q2 : ((t[j].toNat : Int) == 10) = false := u8_ne (d := 10) (by rw [h34]; decide)
        have H5 : Hid (j = E) := (Lx.run_stop (p := Lx.inBody) (fun _ => by show Lx.inBody t[j] = false; rw [h34]; decide)).symm.trans hm.out
        have H6 := hid h34
        clear hm h34
        go_wp2
        · refine post_cell_tmp rfl (v := tok0) (x := .int .i64 2) rfl (by simp [go_sem, tok0]) rfl rfl ?_
          have e := H5.out
          subst e
          exact rnext_done (Lx.next_quote_long hl h'.out (by rw [hE.out]; exact hl') (by simp only [hE.out]; show t[j] ≠ 10; rw [H6.out]; decide) (by rw [hE.out]; omega)) rfl (by repeat (first | exact Below.refl _ _ | refine Below.alloc ?_ (by simp) _))
        · refine post_cell_tmp rfl (v := .agg #[.int .i64 3, .int .i64 k, .int .i64 0, .string (t.extract (k + 1) j)]) (x := .int .i64 0) rfl (by simp [go_sem]) rfl rfl ?_
          have e := H5.out
          subst e
          exact rnext_done (Lx.next_quote_ok hl h'.out (by rw [hE.out]; exact hl') (by simp only [hE.out]; show t[j] ≠ 10; rw [H6.out]; decide) (by rw [hE.out]; omega)) (by rw [extract_bs, hE.out]; rfl) (by repeat (first | exact Below.refl _ _ | refine Below.alloc ?_ (by simp) _))
      · have q1 : ((t[j].toNat : Int) != 34) = true := u8_bne_t (d := 34) h34
        by_cases h10 : t[j] = 10
        · have q2 : ((t[j].toNat : Int) != 10) = false := u8_bne_f (d := 10) h10
          have q3 : ((t[j].toNat : Int) == 10) = true := u8_eq (d := 10) h10
          have H5 : Hid (j = E) := (Lx.run_stop (p := Lx.inBody) (fun _ => by show Lx.inBody t[j] = false; rw [h10]; decide)).symm.trans hm.out
          have H6 := hid h10
          clear hm h10 h34
          go_wp2
          refine post_cell_tmp rfl (v := tok0) (x := .int .i64 6) rfl (by simp [go_sem, tok0]) rfl rfl ?_
          have e := H5.out
          subst e
          exact rnext_done (Lx.next_quote_open hl h'.out (fun hh => by simp only [hE.out]; exact H6.out)) rfl (by repeat (first | exact Below.refl _ _ | refine Below.alloc ?_ (by simp) _))
        · have q2 : ((t[j].toNat : Int) != 10) = true := u8_bne_t (d := 10) h10
          have H5 : Hid (Lx.run Lx.inBody t.data.toList (j + 1) = E) := (Lx.run_step hl' (by show Lx.inBody t[j] = true; simp [Lx.inBody, h34, h10])).trans hm.out
          clear hm h10 h34
          go_wp2
          go_round
          case rel => exact ⟨j + 1, by omega, by omega, by go_num, H5⟩
          case measure => simp [intOf]; omega
    · have H5 : Hid (j = E) := (Lx.run_stop (fun hh => absurd hh (by simpa using hjt))).symm.trans hm.out
      have q1 : ((j : Int) == (t.size : Int)) = true := by rw [beq_iff_eq]; omega
      clear hm
      go_wp2
      refine post_cell_tmp rfl (v := tok0) (x := .int .i64 6) rfl (by simp [go_sem, tok0]) rfl rfl ?_
      have e := H5.out
      subst e
      exact rnext_done (Lx.next_quote_open hl h'.out (fun hh => by rw [hE.out] at hh; exact absurd hh (by simpa using hjt))) rfl (by repeat (first | exact Below.refl _ _ | refine Below.alloc ?_ (by simp) _))

set_option maxRecDepth 100000 in
set_option maxHeartbeats 800000 in
theorem rnext_two (t : ByteArray) (k : Nat) (w : World) (hs : t.size ≤ maxLen) (hk : k < t.size) (h : Lx.isRest t[k] = true) (hk1 : k + 1 < t.size) (hc : t[k] = 33 ∨ Lx.isAngle t[k] = true) (he : t[k + 1] = 61) :
    Calls Tryz.prog 77 #[.string t, .int .i64 k] w (Gives (rnextV k (Lx.nextTok t[k] (t.data.toList.drop (k + 1)))) w) := by
  unfold maxLen at hs
  have hl : k < t.data.toList.length := by simpa using hk
  have g1 : Lx.isLetter t[k] = false := by have := h; simp [Lx.isRest] at this; exact this.1.1
  have g2 : Lx.isDigit t[k] = false := by have := h; simp [Lx.isRest] at this; exact this.1.2
  have g3 : ((t[k].toNat : Int) == 34) = false := u8_ne (d := 34) (by have := h; simp [Lx.isRest] at this; exact this.2)
  have h' := hid h
  clear h
  have g4 : hasB ⟨#[33, 60, 62]⟩ t[k] = true := (hasB_mark _).2 hc
  have g5 : ((t[k + 1].toNat : Int) == 61) = true := u8_eq (d := 61) he
  have hc' := hid hc
  have he' := hid he
  clear hc he
  go_enter Tryz.func77, Tryz.ntmps77
  go_wp2_with (first | (go_at_call 84; refine (letter_any _ _).mono ?_; rintro e w' ⟨rfl, rfl⟩) | (go_at_call 101; refine (digit_any _ _).mono ?_; rintro e w' ⟨rfl, rfl⟩) | (go_at_call 83; refine (word_any _ _).mono ?_; rintro e w' ⟨rfl, rfl⟩) | (go_at_call 100; refine (rhas_any _ _ _ (by decide)).mono ?_; rintro e w' ⟨rfl, rfl⟩))
  refine post_cell_tmp rfl (v := .agg #[.int .i64 4, .int .i64 k, .int .i64 0, .string (t.extract k (k + 2))]) (x := .int .i64 0) rfl (by simp [go_sem]) rfl rfl ?_
  exact rnext_done (Lx.next_two (by simpa using hk1) h'.out hc'.out he'.out) (by rw [extract_bs, Nat.add_sub_cancel_left]; rfl) (by repeat (first | exact Below.refl _ _ | refine Below.alloc ?_ (by simp) _ | refine below_drewN ?_ _ | refine Below.drew ?_))

set_option maxRecDepth 100000 in
set_option maxHeartbeats 800000 in
theorem rnext_one_plain (t : ByteArray) (k : Nat) (w : World) (hs : t.size ≤ maxLen) (hk : k < t.size) (h : Lx.isRest t[k] = true) (hc : ¬ (t[k] = 33 ∨ Lx.isAngle t[k] = true)) (hs' : Lx.isAngle t[k] = true ∨ Lx.isPlain t[k] = true) :
    Calls Tryz.prog 77 #[.string t, .int .i64 k] w (Gives (rnextV k (Lx.nextTok t[k] (t.data.toList.drop (k + 1)))) w) := by
  unfold maxLen at hs
  have hl : k < t.data.toList.length := by simpa using hk
  have g1 : Lx.isLetter t[k] = false := by have := h; simp [Lx.isRest] at this; exact this.1.1
  have g2 : Lx.isDigit t[k] = false := by have := h; simp [Lx.isRest] at this; exact this.1.2
  have g3 : ((t[k].toNat : Int) == 34) = false := u8_ne (d := 34) (by have := h; simp [Lx.isRest] at this; exact this.2)
  have h' := hid h
  clear h
  have g4 : hasB ⟨#[33, 60, 62]⟩ t[k] = false := by rw [Bool.eq_false_iff]; exact fun hh => hc ((hasB_mark _).1 hh)
  have hc' := hid hc
  clear hc
  have g6 : hasB ⟨#[59, 44, 46, 58, 40, 41, 91, 93, 123, 125, 61, 60, 62, 43, 45]⟩ t[k] = true := (hasB_sym _).2 hs'
  have hs2 := hid hs'
  clear hs'
  go_enter Tryz.func77, Tryz.ntmps77
  go_wp2_with (first | (go_at_call 84; refine (letter_any _ _).mono ?_; rintro e w' ⟨rfl, rfl⟩) | (go_at_call 101; refine (digit_any _ _).mono ?_; rintro e w' ⟨rfl, rfl⟩) | (go_at_call 83; refine (word_any _ _).mono ?_; rintro e w' ⟨rfl, rfl⟩) | (go_at_call 100; refine (rhas_any _ _ _ (by decide)).mono ?_; rintro e w' ⟨rfl, rfl⟩))
  refine post_cell_tmp rfl (v := .agg #[.int .i64 4, .int .i64 k, .int .i64 0, .string (t.extract k (k + 1))]) (x := .int .i64 0) rfl (by simp [go_sem]) rfl rfl ?_
  exact rnext_done (Lx.next_one hl h'.out (fun hc => absurd hc hc'.out) hs2.out) (by rw [extract_bs, Nat.add_sub_cancel_left]; rfl) (by repeat (first | exact Below.refl _ _ | refine Below.alloc ?_ (by simp) _ | refine below_drewN ?_ _ | refine Below.drew ?_))

set_option maxRecDepth 100000 in
set_option maxHeartbeats 800000 in
theorem rnext_bad_plain (t : ByteArray) (k : Nat) (w : World) (hs : t.size ≤ maxLen) (hk : k < t.size) (h : Lx.isRest t[k] = true) (hc : ¬ (t[k] = 33 ∨ Lx.isAngle t[k] = true)) (hs' : Lx.isAngle t[k] = false ∧ Lx.isPlain t[k] = false) :
    Calls Tryz.prog 77 #[.string t, .int .i64 k] w (Gives (rnextV k (Lx.nextTok t[k] (t.data.toList.drop (k + 1)))) w) := by
  unfold maxLen at hs
  have hl : k < t.data.toList.length := by simpa using hk
  have g1 : Lx.isLetter t[k] = false := by have := h; simp [Lx.isRest] at this; exact this.1.1
  have g2 : Lx.isDigit t[k] = false := by have := h; simp [Lx.isRest] at this; exact this.1.2
  have g3 : ((t[k].toNat : Int) == 34) = false := u8_ne (d := 34) (by have := h; simp [Lx.isRest] at this; exact this.2)
  have h' := hid h
  clear h
  have g4 : hasB ⟨#[33, 60, 62]⟩ t[k] = false := by rw [Bool.eq_false_iff]; exact fun hh => hc ((hasB_mark _).1 hh)
  have hc' := hid hc
  clear hc
  have g6 : hasB ⟨#[59, 44, 46, 58, 40, 41, 91, 93, 123, 125, 61, 60, 62, 43, 45]⟩ t[k] = false := by
    rw [Bool.eq_false_iff]; intro hh; rcases (hasB_sym _).1 hh with hh | hh <;> simp [hs'] at hh
  have hs2 := hid hs'
  clear hs'
  go_enter Tryz.func77, Tryz.ntmps77
  go_wp2_with (first | (go_at_call 84; refine (letter_any _ _).mono ?_; rintro e w' ⟨rfl, rfl⟩) | (go_at_call 101; refine (digit_any _ _).mono ?_; rintro e w' ⟨rfl, rfl⟩) | (go_at_call 83; refine (word_any _ _).mono ?_; rintro e w' ⟨rfl, rfl⟩) | (go_at_call 100; refine (rhas_any _ _ _ (by decide)).mono ?_; rintro e w' ⟨rfl, rfl⟩))
  refine post_cell_tmp rfl (v := tok0) (x := .int .i64 3) rfl (by simp [go_sem, tok0]) rfl rfl ?_
  exact rnext_done (Lx.next_bad hl h'.out (fun hc => absurd hc hc'.out) hs2.out) rfl (by repeat (first | exact Below.refl _ _ | refine Below.alloc ?_ (by simp) _ | refine below_drewN ?_ _ | refine Below.drew ?_))

set_option maxRecDepth 100000 in
set_option maxHeartbeats 800000 in
theorem rnext_one_end (t : ByteArray) (k : Nat) (w : World) (hs : t.size ≤ maxLen) (hk : k < t.size) (h : Lx.isRest t[k] = true) (hk1 : ¬ k + 1 < t.size) (hc : t[k] = 33 ∨ Lx.isAngle t[k] = true) (hs' : Lx.isAngle t[k] = true ∨ Lx.isPlain t[k] = true) :
    Calls Tryz.prog 77 #[.string t, .int .i64 k] w (Gives (rnextV k (Lx.nextTok t[k] (t.data.toList.drop (k + 1)))) w) := by
  unfold maxLen at hs
  have hl : k < t.data.toList.length := by simpa using hk
  have g1 : Lx.isLetter t[k] = false := by have := h; simp [Lx.isRest] at this; exact this.1.1
  have g2 : Lx.isDigit t[k] = false := by have := h; simp [Lx.isRest] at this; exact this.1.2
  have g3 : ((t[k].toNat : Int) == 34) = false := u8_ne (d := 34) (by have := h; simp [Lx.isRest] at this; exact this.2)
  have h' := hid h
  clear h
  have g4 : hasB ⟨#[33, 60, 62]⟩ t[k] = true := (hasB_mark _).2 hc
  have hc' := hid hc
  clear hc
  have g6 : hasB ⟨#[59, 44, 46, 58, 40, 41, 91, 93, 123, 125, 61, 60, 62, 43, 45]⟩ t[k] = true := (hasB_sym _).2 hs'
  have hs2 := hid hs'
  clear hs'
  go_enter Tryz.func77, Tryz.ntmps77
  go_wp2_with (first | (go_at_call 84; refine (letter_any _ _).mono ?_; rintro e w' ⟨rfl, rfl⟩) | (go_at_call 101; refine (digit_any _ _).mono ?_; rintro e w' ⟨rfl, rfl⟩) | (go_at_call 83; refine (word_any _ _).mono ?_; rintro e w' ⟨rfl, rfl⟩) | (go_at_call 100; refine (rhas_any _ _ _ (by decide)).mono ?_; rintro e w' ⟨rfl, rfl⟩))
  refine post_cell_tmp rfl (v := .agg #[.int .i64 4, .int .i64 k, .int .i64 0, .string (t.extract k (k + 1))]) (x := .int .i64 0) rfl (by simp [go_sem]) rfl rfl ?_
  exact rnext_done (Lx.next_one hl h'.out (fun _ hh => absurd hh (by simpa using hk1)) hs2.out) (by rw [extract_bs, Nat.add_sub_cancel_left]; rfl) (by repeat (first | exact Below.refl _ _ | refine Below.alloc ?_ (by simp) _ | refine below_drewN ?_ _ | refine Below.drew ?_))

set_option maxRecDepth 100000 in
set_option maxHeartbeats 800000 in
theorem rnext_bad_end (t : ByteArray) (k : Nat) (w : World) (hs : t.size ≤ maxLen) (hk : k < t.size) (h : Lx.isRest t[k] = true) (hk1 : ¬ k + 1 < t.size) (hc : t[k] = 33 ∨ Lx.isAngle t[k] = true) (hs' : Lx.isAngle t[k] = false ∧ Lx.isPlain t[k] = false) :
    Calls Tryz.prog 77 #[.string t, .int .i64 k] w (Gives (rnextV k (Lx.nextTok t[k] (t.data.toList.drop (k + 1)))) w) := by
  unfold maxLen at hs
  have hl : k < t.data.toList.length := by simpa using hk
  have g1 : Lx.isLetter t[k] = false := by have := h; simp [Lx.isRest] at this; exact this.1.1
  have g2 : Lx.isDigit t[k] = false := by have := h; simp [Lx.isRest] at this; exact this.1.2
  have g3 : ((t[k].toNat : Int) == 34) = false := u8_ne (d := 34) (by have := h; simp [Lx.isRest] at this; exact this.2)
  have h' := hid h
  clear h
  have g4 : hasB ⟨#[33, 60, 62]⟩ t[k] = true := (hasB_mark _).2 hc
  have hc' := hid hc
  clear hc
  have g6 : hasB ⟨#[59, 44, 46, 58, 40, 41, 91, 93, 123, 125, 61, 60, 62, 43, 45]⟩ t[k] = false := by
    rw [Bool.eq_false_iff]; intro hh; rcases (hasB_sym _).1 hh with hh | hh <;> simp [hs'] at hh
  have hs2 := hid hs'
  clear hs'
  go_enter Tryz.func77, Tryz.ntmps77
  go_wp2_with (first | (go_at_call 84; refine (letter_any _ _).mono ?_; rintro e w' ⟨rfl, rfl⟩) | (go_at_call 101; refine (digit_any _ _).mono ?_; rintro e w' ⟨rfl, rfl⟩) | (go_at_call 83; refine (word_any _ _).mono ?_; rintro e w' ⟨rfl, rfl⟩) | (go_at_call 100; refine (rhas_any _ _ _ (by decide)).mono ?_; rintro e w' ⟨rfl, rfl⟩))
  refine post_cell_tmp rfl (v := tok0) (x := .int .i64 3) rfl (by simp [go_sem, tok0]) rfl rfl ?_
  exact rnext_done (Lx.next_bad hl h'.out (fun _ hh => absurd hh (by simpa using hk1)) hs2.out) rfl (by repeat (first | exact Below.refl _ _ | refine Below.alloc ?_ (by simp) _ | refine below_drewN ?_ _ | refine Below.drew ?_))

set_option maxRecDepth 100000 in
set_option maxHeartbeats 800000 in
theorem rnext_one_else (t : ByteArray) (k : Nat) (w : World) (hs : t.size ≤ maxLen) (hk : k < t.size) (h : Lx.isRest t[k] = true) (hk1 : k + 1 < t.size) (hc : t[k] = 33 ∨ Lx.isAngle t[k] = true) (he : t[k + 1] ≠ 61) (hs' : Lx.isAngle t[k] = true ∨ Lx.isPlain t[k] = true) :
    Calls Tryz.prog 77 #[.string t, .int .i64 k] w (Gives (rnextV k (Lx.nextTok t[k] (t.data.toList.drop (k + 1)))) w) := by
  unfold maxLen at hs
  have hl : k < t.data.toList.length := by simpa using hk
  have g1 : Lx.isLetter t[k] = false := by have := h; simp [Lx.isRest] at this; exact this.1.1
  have g2 : Lx.isDigit t[k] = false := by have := h; simp [Lx.isRest] at this; exact this.1.2
  have g3 : ((t[k].toNat : Int) == 34) = false := u8_ne (d := 34) (by have := h; simp [Lx.isRest] at this; exact this.2)
  have h' := hid h
  clear h
  have g4 : hasB ⟨#[33, 60, 62]⟩ t[k] = true := (hasB_mark _).2 hc
  have g5 : ((t[k + 1].toNat : Int) == 61) = false := u8_ne (d := 61) he
  have hc' := hid hc
  have he' := hid he
  clear hc he
  have g6 : hasB ⟨#[59, 44, 46, 58, 40, 41, 91, 93, 123, 125, 61, 60, 62, 43, 45]⟩ t[k] = true := (hasB_sym _).2 hs'
  have hs2 := hid hs'
  clear hs'
  go_enter Tryz.func77, Tryz.ntmps77
  go_wp2_with (first | (go_at_call 84; refine (letter_any _ _).mono ?_; rintro e w' ⟨rfl, rfl⟩) | (go_at_call 101; refine (digit_any _ _).mono ?_; rintro e w' ⟨rfl, rfl⟩) | (go_at_call 83; refine (word_any _ _).mono ?_; rintro e w' ⟨rfl, rfl⟩) | (go_at_call 100; refine (rhas_any _ _ _ (by decide)).mono ?_; rintro e w' ⟨rfl, rfl⟩))
  refine post_cell_tmp rfl (v := .agg #[.int .i64 4, .int .i64 k, .int .i64 0, .string (t.extract k (k + 1))]) (x := .int .i64 0) rfl (by simp [go_sem]) rfl rfl ?_
  exact rnext_done (Lx.next_one hl h'.out (fun _ hh => he'.out) hs2.out) (by rw [extract_bs, Nat.add_sub_cancel_left]; rfl) (by repeat (first | exact Below.refl _ _ | refine Below.alloc ?_ (by simp) _ | refine below_drewN ?_ _ | refine Below.drew ?_))

set_option maxRecDepth 100000 in
set_option maxHeartbeats 800000 in
theorem rnext_bad_else (t : ByteArray) (k : Nat) (w : World) (hs : t.size ≤ maxLen) (hk : k < t.size) (h : Lx.isRest t[k] = true) (hk1 : k + 1 < t.size) (hc : t[k] = 33 ∨ Lx.isAngle t[k] = true) (he : t[k + 1] ≠ 61) (hs' : Lx.isAngle t[k] = false ∧ Lx.isPlain t[k] = false) :
    Calls Tryz.prog 77 #[.string t, .int .i64 k] w (Gives (rnextV k (Lx.nextTok t[k] (t.data.toList.drop (k + 1)))) w) := by
  unfold maxLen at hs
  have hl : k < t.data.toList.length := by simpa using hk
  have g1 : Lx.isLetter t[k] = false := by have := h; simp [Lx.isRest] at this; exact this.1.1
  have g2 : Lx.isDigit t[k] = false := by have := h; simp [Lx.isRest] at this; exact this.1.2
  have g3 : ((t[k].toNat : Int) == 34) = false := u8_ne (d := 34) (by have := h; simp [Lx.isRest] at this; exact this.2)
  have h' := hid h
  clear h
  have g4 : hasB ⟨#[33, 60, 62]⟩ t[k] = true := (hasB_mark _).2 hc
  have g5 : ((t[k + 1].toNat : Int) == 61) = false := u8_ne (d := 61) he
  have hc' := hid hc
  have he' := hid he
  clear hc he
  have g6 : hasB ⟨#[59, 44, 46, 58, 40, 41, 91, 93, 123, 125, 61, 60, 62, 43, 45]⟩ t[k] = false := by
    rw [Bool.eq_false_iff]; intro hh; rcases (hasB_sym _).1 hh with hh | hh <;> simp [hs'] at hh
  have hs2 := hid hs'
  clear hs'
  go_enter Tryz.func77, Tryz.ntmps77
  go_wp2_with (first | (go_at_call 84; refine (letter_any _ _).mono ?_; rintro e w' ⟨rfl, rfl⟩) | (go_at_call 101; refine (digit_any _ _).mono ?_; rintro e w' ⟨rfl, rfl⟩) | (go_at_call 83; refine (word_any _ _).mono ?_; rintro e w' ⟨rfl, rfl⟩) | (go_at_call 100; refine (rhas_any _ _ _ (by decide)).mono ?_; rintro e w' ⟨rfl, rfl⟩))
  refine post_cell_tmp rfl (v := tok0) (x := .int .i64 3) rfl (by simp [go_sem, tok0]) rfl rfl ?_
  exact rnext_done (Lx.next_bad hl h'.out (fun _ hh => he'.out) hs2.out) rfl (by repeat (first | exact Below.refl _ _ | refine Below.alloc ?_ (by simp) _ | refine below_drewN ?_ _ | refine Below.drew ?_))

set_option maxRecDepth 100000 in
set_option maxHeartbeats 800000 in
theorem rnext_digit_err (t : ByteArray) (k E : Nat) (w : World) (hs : t.size ≤ maxLen) (hk : k < t.size) (h : Lx.isDigit t[k] = true)
    (hE : Hid (Lx.run Lx.isDigit t.data.toList (k + 1) = E)) (hbad : 13 < E - k ∨ ∃ hh : E < t.size, Lx.isWord t[E] = true) :
    Calls Tryz.prog 77 #[.string t, .int .i64 k] w (Gives (rnextV k (Lx.nextTok t[k] (t.data.toList.drop (k + 1)))) w) := by
  unfold maxLen at hs
  have hl : k < t.data.toList.length := by simpa using hk
  have g1 : Lx.isLetter t[k] = false := Lx.letter_of_digit h
  have hbad' := hid hbad
  clear hbad
  go_enter Tryz.func77, Tryz.ntmps77
  go_wp2_with (first | (go_at_call 84; refine (letter_any _ _).mono ?_; rintro e w' ⟨rfl, rfl⟩) | (go_at_call 101; refine (digit_any _ _).mono ?_; rintro e w' ⟨rfl, rfl⟩))
  go_loop [6] (fun i => ∃ j : Nat, k < j ∧ j ≤ t.size ∧ i = .int .i64 j ∧ Hid (Lx.run Lx.isDigit t.data.toList j = E)) (fun i => t.size - (intOf i).toNat)
  case atStart => exact ⟨k + 1, by omega, by omega, by go_num, hE⟩
  case round =>
    obtain ⟨j, hkj, hj, rfl, hm⟩ := hrel
    by_cases hjd : ∃ hh : j < t.size, Lx.isDigit t[j] = true
    · obtain ⟨hjt, hd⟩ := hjd
      have hl' : j < t.data.toList.length := by simpa using hjt
      have H5 : Hid (Lx.run Lx.isDigit t.data.toList (j + 1) = E) := (Lx.run_step hl' hd).trans hm.out
      clear hm
      go_wp2_with (go_at_call 101; refine (digit_any _ _).mono ?_; rintro e w' ⟨rfl, rfl⟩)
      go_round
      case rel => exact ⟨j + 1, by omega, by omega, by go_num, H5⟩
      case measure => simp [intOf]; omega
    · have hjE : j = E := (Lx.run_stop (l := t.data.toList) (fun hh => Bool.eq_false_iff.2 fun hd => hjd ⟨by simpa using hh, hd⟩)).symm.trans hm.out
      clear hm
      subst hjE
      by_cases hlong : 13 < j - k
      · have hgt : (13 : Int) < (j : Int) - (k : Int) := by omega
        by_cases hjt : j < t.size
        · have hd : Lx.isDigit t[j] = false := Bool.eq_false_iff.2 fun hd => hjd ⟨hjt, hd⟩
          clear hjd
          go_wp2_with (go_at_call 101; refine (digit_any _ _).mono ?_; rintro e w' ⟨rfl, rfl⟩)
          refine post_cell_tmp rfl (v := tok0) (x := .int .i64 4) rfl (by simp [go_sem, tok0]) rfl rfl ?_
          exact rnext_done (Lx.next_digit_err hl h (.inl (by rw [hE.out]; omega))) rfl (by repeat (first | exact Below.refl _ _ | refine Below.alloc ?_ (by simp) _))
        · clear hjd
          go_wp2
          refine post_cell_tmp rfl (v := tok0) (x := .int .i64 4) rfl (by simp [go_sem, tok0]) rfl rfl ?_
          exact rnext_done (Lx.next_digit_err hl h (.inl (by rw [hE.out]; omega))) rfl (by repeat (first | exact Below.refl _ _ | refine Below.alloc ?_ (by simp) _))
      · have hle : (j : Int) - (k : Int) ≤ 13 := by omega
        obtain ⟨hjt, hw⟩ := hbad'.out.resolve_left hlong
        have hd : Lx.isDigit t[j] = false := Bool.eq_false_iff.2 fun hd => hjd ⟨hjt, hd⟩
        clear hjd
        go_wp2_with (first | (go_at_call 101; refine (digit_any _ _).mono ?_; rintro e w' ⟨rfl, rfl⟩) | (go_at_call 83; refine (word_any _ _).mono ?_; rintro e w' ⟨rfl, rfl⟩))
        refine post_cell_tmp rfl (v := tok0) (x := .int .i64 4) rfl (by simp [go_sem, tok0]) rfl rfl ?_
        exact rnext_done (Lx.next_digit_err hl h (.inr (by simp only [hE.out]; exact ⟨by simpa using hjt, hw⟩))) rfl (by repeat (first | exact Below.refl _ _ | refine Below.alloc ?_ (by simp) _))

set_option maxRecDepth 100000 in
set_option maxHeartbeats 1600000 in
theorem rnext_digit_ok (t : ByteArray) (k E : Nat) (w : World) (hs : t.size ≤ maxLen) (hk : k < t.size) (h : Lx.isDigit t[k] = true)
    (hE : Hid (Lx.run Lx.isDigit t.data.toList (k + 1) = E)) (h13 : E - k ≤ 13) (hgood : Hid (∀ hh : E < t.size, Lx.isWord t[E] = false)) :
    Calls Tryz.prog 77 #[.string t, .int .i64 k] w (Gives (rnextV k (Lx.nextTok t[k] (t.data.toList.drop (k + 1)))) w) := by
  unfold maxLen at hs
  have hl : k < t.data.toList.length := by simpa using hk
  have g1 : Lx.isLetter t[k] = false := Lx.letter_of_digit h
  have hEk : Hid (Lx.run Lx.isDigit t.data.toList k = E) := (Lx.run_step hl h).symm.trans hE.out
  have hkE : k < E := by have := Lx.run_ge Lx.isDigit t.data.toList (k + 1); rw [hE.out] at this; omega
  have hEs : E ≤ t.size := by have := Lx.run_le Lx.isDigit t.data.toList (k + 1) (by simp; omega); rw [hE.out] at this; simpa using this
  go_enter Tryz.func77, Tryz.ntmps77
  go_wp2_with (first | (go_at_call 84; refine (letter_any _ _).mono ?_; rintro e w' ⟨rfl, rfl⟩) | (go_at_call 101; refine (digit_any _ _).mono ?_; rintro e w' ⟨rfl, rfl⟩))
  go_loop [6] (fun i => ∃ j : Nat, k < j ∧ j ≤ t.size ∧ i = .int .i64 j ∧ Hid (Lx.run Lx.isDigit t.data.toList j = E)) (fun i => t.size - (intOf i).toNat)
  case atStart => exact ⟨k + 1, by omega, by omega, by go_num, hE⟩
  case round =>
    obtain ⟨j, hkj, hj, rfl, hm⟩ := hrel
    by_cases hjd : ∃ hh : j < t.size, Lx.isDigit t[j] = true
    · obtain ⟨hjt, hd⟩ := hjd
      have hl' : j < t.data.toList.length := by simpa using hjt
      have H5 : Hid (Lx.run Lx.isDigit t.data.toList (j + 1) = E) := (Lx.run_step hl' hd).trans hm.out
      clear hm
      go_wp2_with (go_at_call 101; refine (digit_any _ _).mono ?_; rintro e w' ⟨rfl, rfl⟩)
      go_round
      case rel => exact ⟨j + 1, by omega, by omega, by go_num, H5⟩
      case measure => simp [intOf]; omega
    · have hjE : j = E := (Lx.run_stop (l := t.data.toList) (fun hh => Bool.eq_false_iff.2 fun hd => hjd ⟨by simpa using hh, hd⟩)).symm.trans hm.out
      clear hm
      subst hjE
      have hle : (j : Int) - (k : Int) ≤ 13 := by omega
      have hgd := fun hh => Bool.eq_false_iff.2 fun hd => hjd ⟨hh, hd⟩
      clear hjd
      have key : ∀ (a : Act), True := fun _ => trivial
      by_cases hjt : j < t.size
      · have hd : Lx.isDigit t[j] = false := hgd hjt
        have hw : Lx.isWord t[j] = false := hgood.out hjt
        clear hgd key
        go_wp2_with (first | (go_at_call 101; refine (digit_any _ _).mono ?_; rintro e w' ⟨rfl, rfl⟩) | (go_at_call 83; refine (word_any _ _).mono ?_; rintro e w' ⟨rfl, rfl⟩))
        go_loopw [9] (fun i wr => ∃ m q : Nat, k ≤ m ∧ m ≤ j ∧ i = .int .i64 m ∧ wr = ((w.alloc (.cells #[.int .i64 0, .int .i64 0, .int .i64 0, .string ⟨#[]⟩] 81)).alloc (.cells #[.int .i64 2, .int .i64 k, .int .i64 (numAt t k m), .string ⟨#[]⟩] 81)).drewN q) (fun i _ => j - (intOf i).toNat)
        case atStart => exact ⟨k, 0, Nat.le_refl _, by omega, rfl, by rw [numAt_self]; rfl⟩
        case round =>
          obtain ⟨m, q, hkm, hmj, rfl, rfl⟩ := hrel
          by_cases hlt : m < j
          · have hmt : m < t.size := by omega
            obtain ⟨b1, b2⟩ := u8_sub48 (num_digit hEk.out hkm hlt hmt)
            have b3 := num_lt hEk.out h13 hmj
            have HS := hid (numAt_stepZ hkm hmt b1)
            go_wp2
            go_region
            go_wp2
            go_roundw
            case rel => exact ⟨m + 1, q + 1, by omega, by omega, by go_num, by rw [HS.out]⟩
            case measure => simp [intOf]; omega
          · have hmE : m = j := by omega
            subst hmE
            go_wp2
            refine post_cell_tmp rfl (v := .agg #[.int .i64 2, .int .i64 k, .int .i64 (numAt t k m), .string (t.extract k m)]) (x := .int .i64 0) rfl (by simp [go_sem]) rfl rfl ?_
            exact rnext_done (Lx.next_digit_ok hl h (by rw [hE.out]; exact h13) (fun hh => by simp only [hE.out] at hh ⊢; exact hgood.out (by simpa using hh))) (by rw [extract_bs, hE.out]; rfl) (by repeat (first | exact Below.refl _ _ | refine Below.alloc ?_ (by simp) _ | refine below_drewN ?_ _))
      · clear hgd key
        go_wp2
        go_loopw [9] (fun i wr => ∃ m q : Nat, k ≤ m ∧ m ≤ j ∧ i = .int .i64 m ∧ wr = ((w.alloc (.cells #[.int .i64 0, .int .i64 0, .int .i64 0, .string ⟨#[]⟩] 81)).alloc (.cells #[.int .i64 2, .int .i64 k, .int .i64 (numAt t k m), .string ⟨#[]⟩] 81)).drewN q) (fun i _ => j - (intOf i).toNat)
        case atStart => exact ⟨k, 0, Nat.le_refl _, by omega, rfl, by rw [numAt_self]; rfl⟩
        case round =>
          obtain ⟨m, q, hkm, hmj, rfl, rfl⟩ := hrel
          by_cases hlt : m < j
          · have hmt : m < t.size := by omega
            obtain ⟨b1, b2⟩ := u8_sub48 (num_digit hEk.out hkm hlt hmt)
            have b3 := num_lt hEk.out h13 hmj
            have HS := hid (numAt_stepZ hkm hmt b1)
            go_wp2
            go_region
            go_wp2
            go_roundw
            case rel => exact ⟨m + 1, q + 1, by omega, by omega, by go_num, by rw [HS.out]⟩
            case measure => simp [intOf]; omega
          · have hmE : m = j := by omega
            subst hmE
            go_wp2
            refine post_cell_tmp rfl (v := .agg #[.int .i64 2, .int .i64 k, .int .i64 (numAt t k m), .string (t.extract k m)]) (x := .int .i64 0) rfl (by simp [go_sem]) rfl rfl ?_
            exact rnext_done (Lx.next_digit_ok hl h (by rw [hE.out]; exact h13) (fun hh => by simp only [hE.out] at hh ⊢; exact hgood.out (by simpa using hh))) (by rw [extract_bs, hE.out]; rfl) (by repeat (first | exact Below.refl _ _ | refine Below.alloc ?_ (by simp) _ | refine below_drewN ?_ _))

/-- 'next' of the reference at every offset in the text -/
theorem rnext_any (t : ByteArray) (k : Nat) (w : World) (hs : t.size ≤ maxLen) (hk : k < t.size) :
    Calls Tryz.prog 77 #[.string t, .int .i64 k] w (Gives (rnextV k (Lx.nextTok t[k] (t.data.toList.drop (k + 1)))) w) := by
  by_cases h1 : Lx.isLetter t[k] = true
  · exact rnext_letter_core t k _ w hs hk h1 rfl
  by_cases h2 : Lx.isDigit t[k] = true
  · by_cases hbad : 13 < Lx.run Lx.isDigit t.data.toList (k + 1) - k ∨ ∃ hh : Lx.run Lx.isDigit t.data.toList (k + 1) < t.size, Lx.isWord t[Lx.run Lx.isDigit t.data.toList (k + 1)] = true
    · exact rnext_digit_err t k _ w hs hk h2 rfl hbad
    · exact rnext_digit_ok t k _ w hs hk h2 rfl (Nat.le_of_not_lt fun h => hbad (.inl h)) (fun hh => Bool.eq_false_iff.2 fun h => hbad (.inr ⟨hh, h⟩))
  by_cases h3 : t[k] = 34
  · exact rnext_quote_core t k _ w hs hk h3 rfl
  have hr : Lx.isRest t[k] = true := by simp [Lx.isRest, h1, h2, h3]
  by_cases hs' : Lx.isAngle t[k] = true ∨ Lx.isPlain t[k] = true
  · by_cases hc : t[k] = 33 ∨ Lx.isAngle t[k] = true
    · by_cases hk1 : k + 1 < t.size
      · by_cases he : t[k + 1] = 61
        · exact rnext_two t k w hs hk hr hk1 hc he
        · exact rnext_one_else t k w hs hk hr hk1 hc he hs'
      · exact rnext_one_end t k w hs hk hr hk1 hc hs'
    · exact rnext_one_plain t k w hs hk hr hc hs'
  · have hs2 : Lx.isAngle t[k] = false ∧ Lx.isPlain t[k] = false := ⟨Bool.eq_false_iff.2 fun h => hs' (.inl h), Bool.eq_false_iff.2 fun h => hs' (.inr h)⟩
    by_cases hc : t[k] = 33 ∨ Lx.isAngle t[k] = true
    · by_cases hk1 : k + 1 < t.size
      · by_cases he : t[k + 1] = 61
        · exact rnext_two t k w hs hk hr hk1 hc he
        · exact rnext_bad_else t k w hs hk hr hk1 hc he hs2
      · exact rnext_bad_end t k w hs hk hr hk1 hc hs2
    · exact rnext_bad_plain t k w hs hk hr hc hs2

theorem width_any (kind at_ n : Int) (s : ByteArray) (w : World) (hs : s.size + 2 ≤ maxLen) :
    Calls Tryz.prog 78 #[.agg #[.int .i64 kind, .int .i64 at_, .int .i64 n, .string s]] w (Gives (.int .i64 (if kind = 3 then (s.size : Int) + 2 else s.size)) w) := by
  unfold maxLen at hs
  by_cases h : kind = 3
  · subst h
    go_enter Tryz.func78, Tryz.ntmps78
    go_wp2
    go_ret
    exact ⟨rfl, by repeat (first | exact Below.refl _ _ | refine Below.alloc ?_ (by simp) _)⟩
  · have hb : (kind == 3) = false := by simpa using h
    have h' := hid h
    clear h
    go_enter Tryz.func78, Tryz.ntmps78
    go_wp2
    go_ret
    exact ⟨rfl, by repeat (first | exact Below.refl _ _ | refine Below.alloc ?_ (by simp) _)⟩

theorem width_tok (at_ : Int) (t : Lx.Tk) (w : World) (hs : t.text.length + 2 ≤ maxLen) :
    Calls Tryz.prog 78 #[.agg #[.int .i64 t.kind, .int .i64 at_, .int .i64 t.n, .string (bs t.text)]] w (Gives (.int .i64 (t.width : Nat)) w) := by
  refine (width_any t.kind at_ t.n (bs t.text) w (by rw [bs_size]; exact hs)).mono ?_
  rintro e w' ⟨rfl, hb⟩
  refine ⟨ret_int ?_, hb⟩
  rw [bs_size]
  unfold Lx.Tk.width
  by_cases h : t.kind = 3
  · rw [if_pos h, if_pos (by omega)]; rfl
  · rw [if_neg h, if_neg (by omega)]

theorem rnext_err (t : ByteArray) (k e : Nat) (w : World) (hs : t.size ≤ maxLen) (hk : k < t.size) (h : Hid (Lx.nextTok t[k] (t.data.toList.drop (k + 1)) = .error e)) :
    Calls Tryz.prog 77 #[.string t, .int .i64 k] w (Gives (.tuple #[.agg #[.int .i64 0, .int .i64 0, .int .i64 0, .string ⟨#[]⟩], .int .i64 e]) w) := by
  have := rnext_any t k w hs hk
  rw [h.out] at this
  exact this

theorem rnext_ok (t : ByteArray) (k : Nat) (tk : Lx.Tk) (w : World) (hs : t.size ≤ maxLen) (hk : k < t.size) (h : Hid (Lx.nextTok t[k] (t.data.toList.drop (k + 1)) = .ok tk)) :
    Calls Tryz.prog 77 #[.string t, .int .i64 k] w (Gives (.tuple #[.agg #[.int .i64 tk.kind, .int .i64 k, .int .i64 tk.n, .string (bs tk.text)], .int .i64 0]) w) := by
  have := rnext_any t k w hs hk
  rw [h.out] at this
  exact this

set_option maxRecDepth 100000 in
set_option maxHeartbeats 1600000 in
theorem rlex_any (t : ByteArray) (w : World) (hs : t.size ≤ maxLen) :
    Calls Tryz.prog 52 #[.string t] w (LexPost w (Lx.lex t.data.toList)) := by
  obtain ⟨i0, hi, hz0, hz1, hz2⟩ := info_parts Tryz.infoTok
  have hs' := hs
  unfold maxLen at hs
  have hl : t.data.toList.length = t.size := by simp
  by_cases h20 : 20000 < t.size
  · have hpost := hid (show Lx.lex t.data.toList = ([], 2, -1) by rw [Lx.lex, if_pos (by omega)])
    clear hl
    go_enter Tryz.func52, Tryz.ntmps52
    go_wp2
    go_ret3
    exact LexPost.nil hpost.out (Below.refl _ _)
  · have h20' : t.size ≤ 20000 := by omega
    have S0 := Lx.St.start t.data.toList
    have hg0 : Lx.gapTo false t.data.toList 0 ≤ t.size := by have := Lx.gapTo_le false t.data.toList 0; omega
    go_enter Tryz.func52, Tryz.ntmps52
    go_wp2_with (go_at_call 76; refine (rgap_core t _ 0 _ hs' (Nat.zero_le _) rfl).mono ?_; rintro e w' ⟨rfl, rfl⟩)
    go_loopw [5, 6] (fun v i wr => ∃ (acc : List (Nat × Lx.Tk)) (j k : Nat), k ≤ t.size ∧ i = .int .i64 k ∧ Hid (Lx.St t.data.toList acc j k) ∧ wr.ownsRow w'.heap.size 81 4 v acc.length (tokCells acc) ∧ Below w'.heap.size w' wr) (fun _ i _ => t.size - (intOf i).toNat)
    case atStart => exact ⟨[], 0, _, hg0, rfl, S0, World.ownsRow_nil _ _ _ _, Below.refl _ _⟩
    case round =>
      obtain ⟨acc, j, k, hk, rfl, HS, hown, hb⟩ := hrel
      by_cases hlt : k < t.size
      · have hl' : k < t.data.toList.length := by omega
        have hbig : w'.heap.size ≤ wr.heap.size := hb.size
        cases hn : Lx.nextTok t[k] (t.data.toList.drop (k + 1)) with
        | error e =>
          have H1 := hid hn
          have he := nextTok_err_pos hn
          have he' : ((e : Int) != 0) = true := by rw [bne_iff_ne]; omega
          have hpost := hid (lex_err (by omega) (HS.out.err hl' hn))
          clear hn hown S0 hg0
          go_wp2_with (go_at_call 77; refine (rnext_err t k e _ hs' hlt H1).mono ?_; rintro e w1 ⟨rfl, hb1⟩)
          go_ret3
          exact LexPost.nil hpost.out ((hb.trans (hb1.mono hbig)).alloc (by have := hb1.size; omega) _)
        | ok tk => 
          have H1 := hid hn
          have hwd := Lx.next_width hn
          have hfew := HS.out.few
          have htl : tk.text.length + 2 ≤ maxLen := by
            have h1 : tk.text.length ≤ tk.width := by unfold Lx.Tk.width; split <;> omega
            have h2 := hwd.2
            simp at h2
            unfold maxLen
            omega
          by_cases hc : acc.length = 5000
          · have hpost := hid (lex_err (by omega) (HS.out.full hl' hn hc))
            have hc' : ((acc.length : Int) == 5000) = true := by rw [beq_iff_eq]; omega
            clear hn S0 hg0 hwd htl
            rcases hown.2 with ⟨rfl, hz⟩ | ⟨g, cap, cur, rfl, _⟩
            · omega
            · clear hown hc
              go_wp2_with (go_at_call 77; refine (rnext_ok t k tk _ hs' hlt H1).mono ?_; rintro e w1 ⟨rfl, hb1⟩)
              go_ret3
              exact LexPost.nil hpost.out ((hb.trans (hb1.mono hbig)).alloc (by have := hb1.size; omega) _)
          · have hstep := HS.out.next hl' hn hc
            have hc' : ((acc.length : Int) == 5000) = false := by rw [Bool.eq_false_iff]; intro h; rw [beq_iff_eq] at h; omega
            have hstep1 := hid hstep.1
            have hw0 := hstep.2.1
            have hwl := hstep.2.2
            have hg1 := Lx.gapTo_ge false t.data.toList (k + tk.width) hwl
            have hg2 := Lx.gapTo_le false t.data.toList (k + tk.width)
            have hwl' : k + tk.width ≤ t.size := by omega
            clear hstep hn S0 hg0 hwd HS
            obtain ⟨a, cap, rfl⟩ := ownsRow_slice hown
            go_wp2_with (first
              | (go_at_call 77; refine (rnext_ok t k tk _ hs' hlt H1).mono ?_; rintro e w1 ⟨rfl, hb1⟩; have hown1 := ownsRow_below hown hb1; have hbz := hb1.size)
              | (go_at_call 78; refine (width_tok _ tk _ htl).mono ?_; rintro e w3 ⟨rfl, hb3⟩)
              | (go_at_call 76; refine (rgap_core t _ _ _ hs' hwl' rfl).mono ?_; rintro e w4 ⟨rfl, rfl⟩)
              | (at_builtin; refine wpList_append_own _ rfl _ _ 76 rfl w'.heap.size 81 i0 (.agg #[.int .i64 0, .int .i64 0, .int .i64 0, .string ⟨#[]⟩]) 4 40 Tryz.underlying76 hi hz0 hz1 hz2 rfl (by decide) _ _ _ rfl ((hown1.alloc _).alloc _) ⟨w1.heap.size + 1, 0, none⟩ 1 1 [.int .i64 tk.kind, .int .i64 k, .int .i64 tk.n, .string (bs tk.text)] rfl rfl ?c1 ?c2 ?c3 ?c4 ?c5 ?_))
            case c1 => exact cells_new (by simp)
            case c2 => intro x hx; simp at hx; rcases hx with rfl | rfl | rfl | rfl <;> rfl
            case c3 => unfold maxLen; omega
            case c4 => omega
            case c5 => simp; omega
            intro v' w2 hown2 hgrow2 _
            have hb2 : Below w'.heap.size w' w2 := Below.appended (((hb.trans (hb1.mono hbig)).alloc (by omega) _).alloc (by simp; omega) _) hgrow2 (by simp; omega) ((hown1.alloc _).alloc _)
            have hblk : w2.heap[w1.heap.size]? = some (.cells #[.int .i64 tk.kind, .int .i64 k, .int .i64 tk.n, .string (bs tk.text)] 81) := by
              rw [hgrow2.block w1.heap.size (by simp; omega) (ownsRow_lt hown1 (Nat.le_refl _)), Below.heap_alloc _ _ _ (by simp), heap_alloc_new]
            have d0 := cell_of_row w2 w1.heap.size 0 _ _ _ hblk
            have d1 := cell_of_row w2 w1.heap.size 1 _ _ _ hblk
            have d2 := cell_of_row w2 w1.heap.size 2 _ _ _ hblk
            have d3 := cell_of_row w2 w1.heap.size 3 _ _ _ hblk
            simp only [List.size_toArray, List.length_cons, List.length_nil, Nat.zero_add, Nat.reduceAdd, Nat.reduceLT, getElem?_pos, List.getElem_toArray, List.getElem_cons_zero, List.getElem_cons_succ] at d0 d1 d2 d3
            have hbz2 := hb2.size
            clear hown hown1 hgrow2 hblk H1 hi hz0 hz1 hz2
            go_wp2_with (first
              | (go_at_call 78; refine (width_tok _ tk _ htl).mono ?_; rintro e w3 ⟨rfl, hb3⟩)
              | (go_at_call 76; refine (rgap_core t _ _ _ hs' hwl' rfl).mono ?_; rintro e w4 ⟨rfl, rfl⟩))
            go_roundw
            case rel => exact ⟨acc ++ [(k, tk)], k + tk.width, Lx.gapTo false t.data.toList (k + tk.width), by omega, rfl, hstep1, by rw [tokCells_snoc, List.length_append]; exact ownsRow_below hown2 hb3, hb2.trans (hb3.mono (by omega))⟩
            case measure => simp [intOf]; omega
      · have hpost := hid (lex_ok (by omega) (HS.out.done (by omega)))
        go_wp2
        go_ret3
        exact LexPost.mk hpost.out hown hb

end Go.Proofs.YtidkmhokolknbaaGreatDoor

namespace Li
open Sc

/-- what is still to be read -/
def ScanP (s : List UInt8) (k : Int) (i : Nat) (ws : List (List UInt8)) (cur : Option (List UInt8 × Nat)) : Prop :=
  ∃ f, (s.drop i).length < f ∧ rnameP s = outP k (rscan k f (s.drop i) ws cur)
theorem scan_start {s : List UInt8} (h1 : ¬ 20000 < s.length) (h2 : ¬ (rhead s 4).2 = 0) : ScanP s (rhead s 4).1 (rhead s 4).2 [] none := by
  refine ⟨s.length + 1, by rw [List.length_drop]; omega, ?_⟩
  unfold rnameP
  rw [if_neg h1, if_neg h2]
  cases rscan (rhead s 4).1 (s.length + 1) (s.drop (rhead s 4).2) [] none <;> rfl
theorem scan_end {s : List UInt8} {k : Int} {i : Nat} {ws : List (List UInt8)} {cur : Option (List UInt8 × Nat)} (h : ScanP s k i ws cur) (hi : s.length ≤ i) : rnameP s = outP k (some (fin ws cur)) := by
  obtain ⟨f, hf, e⟩ := h
  rw [List.drop_eq_nil_of_le hi] at hf e
  cases f with
  | zero => simp at hf
  | succ f => rw [e]; rfl
theorem scan_split {s : List UInt8} {k : Int} {i : Nat} {ws : List (List UInt8)} {cur : Option (List UInt8 × Nat)} {c : UInt8} (h : ScanP s k i ws cur) (hc : s[i]? = some c) :
    ∃ f r, s.drop i = c :: r ∧ r = s.drop (i + 1) ∧ r.length + 1 < f + 1 ∧ rnameP s = outP k (rscan k (f + 1) (c :: r) ws cur) := by
  obtain ⟨f, hf, e⟩ := h
  have hd := Go.Proofs.YtidkmhokolknbaaGreatDoor.drop_cons hc
  cases f with
  | zero => simp at hf
  | succ f =>
    rw [hd] at hf e
    exact ⟨f, _, hd, rfl, by simpa using hf, e⟩
theorem scan_blank {s : List UInt8} {k : Int} {i : Nat} {ws : List (List UInt8)} {cur : Option (List UInt8 × Nat)} (h : ScanP s k i ws cur) (hc : s[i]? = some 32) : ScanP s k (i + 1) (fin ws cur) none := by
  obtain ⟨f, r, h1, h2, h3, h4⟩ := scan_split h hc
  refine ⟨f, by rw [← h2]; omega, ?_⟩
  rw [h4]
  cases cur <;> rw [rscan, if_pos rfl, h2]
theorem scan_char {s : List UInt8} {k : Int} {i : Nat} {ws : List (List UInt8)} {cur : Option (List UInt8 × Nat)} {c : UInt8} (h : ScanP s k i ws cur) (hc : s[i]? = some c) (hn : ¬ c = 32) (h0 : len k (s.drop i) = 0) : rnameP s = none := by
  obtain ⟨f, r, h1, h2, h3, h4⟩ := scan_split h hc
  rw [h1] at h0
  rw [h4]
  cases cur <;> (rw [rscan, if_neg hn, if_pos h0]; rfl)
theorem scan_six {s : List UInt8} {k : Int} {i : Nat} {ws : List (List UInt8)} {c : UInt8} (h : ScanP s k i ws none) (hc : s[i]? = some c) (hn : ¬ c = 32) (h0 : ¬ len k (s.drop i) = 0) (h6 : ws.length = 6) : rnameP s = none := by
  obtain ⟨f, r, h1, h2, h3, h4⟩ := scan_split h hc
  rw [h1] at h0
  rw [h4, rscan, if_neg hn, if_neg h0]
  rw [if_pos h6]
  rfl
theorem scan_first {s : List UInt8} {k : Int} {i : Nat} {ws : List (List UInt8)} {c : UInt8} (h : ScanP s k i ws none) (hc : s[i]? = some c) (hn : ¬ c = 32) (h0 : ¬ len k (s.drop i) = 0) (h6 : ¬ ws.length = 6) :
    ScanP s k (i + len k (s.drop i)) ws (some ((s.drop i).take (len k (s.drop i)), 1)) := by
  obtain ⟨f, r, h1, h2, h3, h4⟩ := scan_split h hc
  refine ⟨f, ?_, ?_⟩
  · rw [← List.drop_drop, List.length_drop, h1]; rw [h1] at h0; simp only [List.length_cons]; omega
  · rw [← List.drop_drop]
    rw [h1] at h0 ⊢
    rw [h4, rscan, if_neg hn, if_neg h0]
    rw [if_neg h6]
theorem scan_twelve {s : List UInt8} {k : Int} {i m : Nat} {x : List UInt8} {ws : List (List UInt8)} {c : UInt8} (h : ScanP s k i ws (some (x, m))) (hc : s[i]? = some c) (hn : ¬ c = 32) (h0 : ¬ len k (s.drop i) = 0) (h6 : 12 < m + 1) : rnameP s = none := by
  obtain ⟨f, r, h1, h2, h3, h4⟩ := scan_split h hc
  rw [h1] at h0
  rw [h4, rscan, if_neg hn, if_neg h0]
  rw [if_pos h6]
  rfl
theorem scan_more {s : List UInt8} {k : Int} {i m : Nat} {x : List UInt8} {ws : List (List UInt8)} {c : UInt8} (h : ScanP s k i ws (some (x, m))) (hc : s[i]? = some c) (hn : ¬ c = 32) (h0 : ¬ len k (s.drop i) = 0) (h6 : ¬ 12 < m + 1) :
    ScanP s k (i + len k (s.drop i)) ws (some (x ++ (s.drop i).take (len k (s.drop i)), m + 1)) := by
  obtain ⟨f, r, h1, h2, h3, h4⟩ := scan_split h hc
  refine ⟨f, ?_, ?_⟩
  · rw [← List.drop_drop, List.length_drop, h1]; rw [h1] at h0; simp only [List.length_cons]; omega
  · rw [← List.drop_drop]
    rw [h1] at h0 ⊢
    rw [h4, rscan, if_neg hn, if_neg h0]
    rw [if_neg h6]
theorem rhead_le (s : List UInt8) : ∀ j, (rhead s j).2 ≤ s.length
  | 0 => Nat.zero_le _
  | j + 1 => by
    rw [rhead]
    split
    · rename_i h
      have := congrArg List.length h
      rw [List.length_take] at this
      simp only
      omega
    · exact rhead_le s j
/-- the word that is begun -/
def curP (s : List UInt8) (ins : Bool) (m b i : Nat) : Option (List UInt8 × Nat) := if ins = true then some ((s.drop b).take (i - b), m) else none
theorem cur_false (s : List UInt8) (m b i m' b' i' : Nat) : curP s false m b i = curP s false m' b' i' := rfl
theorem cur_first (s : List UInt8) (i n : Nat) : some ((s.drop i).take n, 1) = curP s true 1 i (i + n) := by
  unfold curP
  rw [if_pos rfl, show i + n - i = n by omega]
theorem cur_more (s : List UInt8) {m b i : Nat} (n : Nat) (h : b ≤ i) : some ((s.drop b).take (i - b) ++ (s.drop i).take n, m + 1) = curP s true (m + 1) b (i + n) := by
  unfold curP
  rw [if_pos rfl, show i + n - b = (i - b) + n by omega, List.take_add, List.drop_drop, show b + (i - b) = i by omega]

end Li
namespace Go.Proofs.YtidkmhokolknbaaGreatDoor
open Go.RowKit Go.Lib Go.Maps

/-- the memory between two rounds: the result's cell, the name so far -/
structure RcW (w0 : World) (k : Int) (ws : List (List UInt8)) (W : World) : Prop where
  d : W.heap[w0.heap.size]? = some (.cells #[.int .i64 0, .slice none 0 0] 73 (0, 0))
  n : ∃ v, W.heap[w0.heap.size + 1]? = some (.cells #[.int .i64 k, v] 73 (0, 0)) ∧ W.ownsRow (w0.heap.size + 2) 9 1 v ws.length (ws.flatMap strC)
  below : Below w0.heap.size w0 W
theorem RcW.step {w0 : World} {k : Int} {ws : List (List UInt8)} {A A' : World} (h : RcW w0 k ws A) (hb : Below A.heap.size A A') : RcW w0 k ws A' := by
  obtain ⟨v, h1, h2⟩ := h.n
  exact ⟨(hb.block _ (Array.getElem?_eq_some_iff.1 h.d).1).trans h.d, ⟨v, (hb.block _ (Array.getElem?_eq_some_iff.1 h1).1).trans h1, ownsRow_below h2 hb⟩, Below.step h.below hb⟩
/-- a word more -/
theorem RcW.append {w0 : World} {k : Int} {ws ws' : List (List UInt8)} {W X w8 : World} {v v' : Value} (h : RcW w0 k ws W) (hX : Below W.heap.size W X) (hv : W.heap[w0.heap.size + 1]? = some (.cells #[.int .i64 k, v] 73 (0, 0)))
    (hown : W.ownsRow (w0.heap.size + 2) 9 1 v ws.length (ws.flatMap strC)) (hg : X.grownBy w8 v.ownBlock) (ho : w8.ownsRow (w0.heap.size + 2) 9 1 v' ws'.length (ws'.flatMap strC)) :
    RcW w0 k ws' (w8.setCell ⟨w0.heap.size + 1, 1, none⟩ v') := by
  have hb : ∀ x, v.ownBlock = some x → w0.heap.size + 2 ≤ x := fun x hx => (own_cells hown hx).1
  have far8 : ∀ (x : Nat) (o : Obj), W.heap[x]? = some o → x < w0.heap.size + 2 → w8.heap[x]? = some o := fun x o hx hc => by
    have h1 := (hX.block x (Array.getElem?_eq_some_iff.1 hx).1).trans hx
    exact (hg.block x (Array.getElem?_eq_some_iff.1 h1).1 (fun e => by have := hb x e.symm; omega)).trans h1
  have hn8 := far8 _ _ hv (by omega)
  have ho2 : (w8.setCell ⟨w0.heap.size + 1, 1, none⟩ v').ownsRow (w0.heap.size + 2) 9 1 v' ws'.length (ws'.flatMap strC) := ownsRow_far ho fun g o hgg hgo _ => (Below.heap_setCell w8 ⟨w0.heap.size + 1, 1, none⟩ v' g (by show g ≠ w0.heap.size + 1; omega)).trans hgo
  refine ⟨(Below.heap_setCell w8 ⟨w0.heap.size + 1, 1, none⟩ v' w0.heap.size (by show w0.heap.size ≠ w0.heap.size + 1; omega)).trans (far8 _ _ h.d (by omega)), ⟨v', ?_, ho2⟩, ?_⟩
  · simp [World.setCell, Array.getElem?_modify, hn8]
  · refine Below.setCell (p := ⟨w0.heap.size + 1, 1, none⟩) ?_ (by show w0.heap.size ≤ w0.heap.size + 1; omega) _
    have h1 : Below w0.heap.size w0 X := h.below.trans (hX.mono h.below.size)
    exact h1.grown hg h1.size (fun r e => by have := hb r e; omega)
/-- the result is stored -/
theorem RcW.stored {w0 : World} {k : Int} {ws : List (List UInt8)} {W : World} (h : RcW w0 k ws W) (a b : Value) :
    ((W.setCell ⟨w0.heap.size, 0, none⟩ a).setCell ⟨w0.heap.size, 1, none⟩ b).heap[w0.heap.size]? = some (.cells #[a, b] 73 (0, 0)) ∧ Below w0.heap.size w0 ((W.setCell ⟨w0.heap.size, 0, none⟩ a).setCell ⟨w0.heap.size, 1, none⟩ b) ∧
    ∀ q, q ≠ w0.heap.size → ((W.setCell ⟨w0.heap.size, 0, none⟩ a).setCell ⟨w0.heap.size, 1, none⟩ b).heap[q]? = W.heap[q]? := by
  have hd := h.d
  refine ⟨by simp [World.setCell, Array.getElem?_modify, hd], (h.below.setCell (p := ⟨w0.heap.size, 0, none⟩) (Nat.le_refl _) _).setCell (p := ⟨w0.heap.size, 1, none⟩) (Nat.le_refl _) _, fun q hq => ?_⟩
  rw [Below.heap_setCell _ ⟨w0.heap.size, 1, none⟩ _ q hq, Below.heap_setCell _ ⟨w0.heap.size, 0, none⟩ _ q hq]

end Go.Proofs.YtidkmhokolknbaaGreatDoor

namespace Go.Proofs.YtidkmhokolknbaaGreatDoor
open Go.RowKit Go.Lib Go.Maps

section
variable {P : Program}
theorem results_cell_two {fn : Func} {p u z : Tmp} {ty : TypeId} (h : fn.results = #[.cell p ty, .tmp u, .tmp z]) (tmps : Array Value) (w : World) :
    (results fn tmps).run P w =
      ((asAddr (tmps.getD p undef)).run P w).andThen fun a w₁ => ((loadVar ty a).run P w₁).andThen fun v w₂ => .ok (.tuple #[v, tmps.getD u undef, tmps.getD z undef]) w₂ := by
  simp only [results, h]
  simp [Sem.run_bind, Result.andThen]
/-- the end of a function whose first result lies in a cell, two more in slots -/
theorem post_cell_two {fn : Func} {R : Ending → World → Prop} {a : Act} {w : World} {p u z : Tmp} {ty : TypeId} (h : fn.results = #[.cell p ty, .tmp u, .tmp z])
    {v x y : Value} {ad : Addr} (hp : a.tmps.getD p undef = .pointer (some ad)) (hl : (loadVar ty ad).run P w = .ok v w) (hu : a.tmps.getD u undef = x) (hz : a.tmps.getD z undef = y) (hd : a.defers = [])
    (hR : R (.returned (.tuple #[v, x, y])) w) : bodyPost P fn R .ret a w := by
  refine bodyPost_ret (v := .tuple #[v, x, y]) ?_ hd hR
  rw [results_cell_two h, hp, hu, hz]
  have e : (asAddr (.pointer (some ad))).run P w = .ok ad w := rfl
  rw [e]
  simp only [Result.andThen]
  rw [hl]
end

/-- what Parse of a name ends in -/
def RNpP (s : List UInt8) (w : World) (e : Ending) (w' : World) : Prop :=
  Below w.heap.size w w' ∧ match Li.rnameP s with
    | some n => ∃ u x, e = .returned (.tuple #[.agg #[.int .i64 n.script, u], .int .i64 0, .int .i64 x]) ∧ w'.ownsRow w.heap.size 9 1 u n.words.length (n.words.flatMap strC)
    | none => ∃ f x, f ≠ 0 ∧ e = .returned (.tuple #[.agg #[.int .i64 0, .slice none 0 0], .int .i64 f, .int .i64 x])

set_option maxRecDepth 100000 in
set_option maxHeartbeats 8000000 in
theorem rnp_any (s : List UInt8) (w : World) (hs : s.length ≤ 5000) : Calls Tryz.prog 53 #[.string (bs s)] w (RNpP s w) := by
  have hbl := bs_len s
  have g0 : decide ((20000 : Int) < (s.length : Int)) = false := decide_eq_false (by omega)
  have g0' : decide (20000 < s.length) = false := decide_eq_false (by omega)
  go_enter Tryz.func53, Tryz.ntmps53
  obtain ⟨W1, hW1⟩ : ∃ W1, W1 = (w.alloc (.cells #[.int .i64 0, .slice none 0 0] 73)).alloc (.cells #[.int .i64 0, .slice none 0 0] 73) := ⟨_, rfl⟩
  have hz : (w.alloc (.cells #[.int .i64 0, .slice none 0 0] 73)).heap.size = w.heap.size + 1 := World.size_alloc _ _
  have hd1 : W1.heap[w.heap.size + 1]? = some (.cells #[.int .i64 0, .slice none 0 0] 73 (0, 0)) := by rw [hW1, ← hz]; exact alloc_new _ _
  have hb1 : Below w.heap.size w W1 := by rw [hW1]; exact ((Below.refl _ w).alloc (Nat.le_refl _) _).alloc (by rw [hz]; omega) _
  go_upto_region 6 with (fail)
  try rw [← hW1]
  have hd0 : W1.heap[w.heap.size]? = some (.cells #[.int .i64 0, .slice none 0 0] 73 (0, 0)) := by rw [hW1, Below.heap_alloc _ _ _ (by rw [hz]; omega)]; exact alloc_new w _
  have HD1 := hid (And.intro hd1 hb1)
  have HZ1 := hid hd0
  clear hd0 hd1 hb1 hz hW1
  go_loopw [6, 7] (fun av iv wr => ∃ j : Nat, j ≤ 4 ∧ iv = .int .i64 ((j : Int) + 1) ∧ av = .int .i64 ((Li.rhead s j).2 : Nat) ∧ Hid (wr.heap[w.heap.size + 1]? = some (.cells #[.int .i64 (Li.rhead s j).1, .slice none 0 0] 73 (0, 0))) ∧ Hid (Below w.heap.size w wr) ∧ Hid (wr.heap[w.heap.size]? = some (.cells #[.int .i64 0, .slice none 0 0] 73 (0, 0)))) (fun _ iv _ => 5 - (RowKit.intOf iv).toNat)
  case atStart => exact ⟨0, by omega, rfl, rfl, HD1.out.1, HD1.out.2, HZ1⟩
  case round =>
    obtain ⟨j, hj, rfl, rfl, HD, HR, HZ⟩ := hrel
    by_cases hlt : j < 4
    · have hk1 : ((j : Int) + 1) ≤ 4 := by omega
      have hk0 : (0 : Int) ≤ (j : Int) := by omega
      have HT := hid (rtitle_any ((j : Int) + 1) wr)
      obtain ⟨T, hT⟩ : ∃ T, T = Li.rtitle ((j + 1 : Nat) : Int) := ⟨_, rfl⟩
      rw [show Li.rtitle ((j : Int) + 1) = T by rw [hT]; rfl] at HT
      have HTT := hid hT
      have htl : T.length ≤ 7 := by
        rw [hT]; unfold Li.rtitle
        split
        · decide
        · split
          · decide
          · split <;> decide
      have HRH := hid (show Li.rhead s (j + 1) = if s.take T.length = T then (((j + 1 : Nat) : Int), T.length) else Li.rhead s j by rw [hT]; rfl)
      clear hT
      go_wp2_with fail
      refine (HT.out).mono ?_
      rintro e w2 ⟨rfl, hb2⟩
      have hd2 := (hb2.block _ (Array.getElem?_eq_some_iff.1 HD.out).1).trans HD.out
      have HD2 := hid hd2
      have HB2 := hid (Below.step HR.out hb2)
      have HZ2 := hid ((hb2.block _ (Array.getElem?_eq_some_iff.1 HZ.out).1).trans HZ.out)
      clear hb2 hd2
      have hbt := bs_len T
      by_cases hge : T.length ≤ s.length
      · have p1 : decide (T.length ≤ s.length) = true := decide_eq_true hge
        have p2 : decide ((T.length : Int) ≤ (s.length : Int)) = true := decide_eq_true (by omega)
        have x2 : (bs s).extract 0 T.length = bs (s.take T.length) := by rw [extract_bs, List.drop_zero, Nat.sub_zero]; rfl
        have hnb := name_beq (s.take T.length) T
        by_cases hm : s.take T.length = T
        · rw [decide_eq_true hm] at hnb
          have HE := hid (HRH.out.trans (if_pos hm))
          have hc0 : w2.cell? ⟨w.heap.size + 1, 0, none⟩ = some (.int .i64 (Li.rhead s j).1) := by have := HD2.out; simp [World.cell?, this]
          have hf0 : w2.frozen? ⟨w.heap.size + 1, 0, none⟩ = false := by have := HD2.out; simp [World.frozen?, this]
          have hz2 := (Array.getElem?_eq_some_iff.1 HD2.out).1
          clear hm
          go_wp2_with fail
          go_roundw
          case rel =>
            refine ⟨j + 1, by omega, by go_num, by rw [HE.out], ?_, HB2.out.setCell (p := ⟨w.heap.size + 1, 0, none⟩) (by show w.heap.size ≤ w.heap.size + 1; omega) _, (Below.heap_setCell _ ⟨w.heap.size + 1, 0, none⟩ _ w.heap.size (by show w.heap.size ≠ w.heap.size + 1; omega)).trans HZ2.out⟩
            rw [HE.out]
            have := HD2.out
            show (w2.setCell ⟨w.heap.size + 1, 0, none⟩ _).heap[w.heap.size + 1]? = _
            simp [World.setCell, Array.getElem?_modify, this]
          case measure => simp [RowKit.intOf]; omega
        · rw [decide_eq_false hm] at hnb
          have HE := hid (HRH.out.trans (if_neg hm))
          clear hm
          go_wp2_with fail
          go_roundw
          case rel => exact ⟨j + 1, by omega, by go_num, by rw [HE.out], by rw [HE.out]; exact HD2.out, HB2, HZ2⟩
          case measure => simp [RowKit.intOf]; omega
      · have p1 : decide (T.length ≤ s.length) = false := decide_eq_false hge
        have p2 : decide ((T.length : Int) ≤ (s.length : Int)) = false := decide_eq_false (by omega)
        have HE := hid (HRH.out.trans (if_neg (fun e => hge (by have := congrArg List.length e; rw [List.length_take] at this; omega))))
        go_wp2_with fail
        go_roundw
        case rel => exact ⟨j + 1, by omega, by go_num, by rw [HE.out], by rw [HE.out]; exact HD2.out, HB2, HZ2⟩
        case measure => simp [RowKit.intOf]; omega
    · have hj4 : j = 4 := by omega
      have hk1 : ¬ ((j : Int) + 1) ≤ 4 := by omega
      subst hj4
      obtain ⟨sc, hsc⟩ : ∃ sc, sc = (Li.rhead s 4).1 := ⟨_, rfl⟩
      obtain ⟨b0, hb0⟩ : ∃ b0, b0 = (Li.rhead s 4).2 := ⟨_, rfl⟩
      rw [← hsc] at HD
      rw [← hb0]
      have HSB := hid (And.intro hsc hb0)
      clear hsc hb0
      by_cases hz : b0 = 0
      · have p1 : ((b0 : Int) == 0) = true := by rw [hz]; rfl
        have HN := hid (show Li.rnameP s = none by
          unfold Li.rnameP
          rw [if_neg (by omega), if_pos (by rw [← HSB.out.2]; exact hz)])
        clear hz
        have hz0 := HZ.out
        have a0 : wr.cell? ⟨w.heap.size, 0, none⟩ = some (.int .i64 0) := by simp [World.cell?, hz0]
        have a1 : wr.cell? ⟨w.heap.size, 1, none⟩ = some (.slice none 0 0) := by simp [World.cell?, hz0]
        have b0' : wr.frozen? ⟨w.heap.size, 0, none⟩ = false := by simp [World.frozen?, hz0]
        have b1' : wr.frozen? ⟨w.heap.size, 1, none⟩ = false := by simp [World.frozen?, hz0]
        have hzl := (Array.getElem?_eq_some_iff.1 hz0).1
        clear hz0
        go_wp2_with fail
        obtain ⟨W9, hW9⟩ : ∃ W9, W9 = (wr.setCell ⟨w.heap.size, 0, none⟩ (.int .i64 0)).setCell ⟨w.heap.size, 1, none⟩ (.slice none 0 0) := ⟨_, rfl⟩
        rw [← hW9]
        have h9 : W9.heap[w.heap.size]? = some (.cells #[.int .i64 0, .slice none 0 0] 73 (0, 0)) := by
          have := HZ.out
          rw [hW9]
          simp [World.setCell, Array.getElem?_modify, this]
        have hb9 : Below w.heap.size w W9 := by rw [hW9]; exact (HR.out.setCell (p := ⟨w.heap.size, 0, none⟩) (Nat.le_refl _) _).setCell (p := ⟨w.heap.size, 1, none⟩) (Nat.le_refl _) _
        refine post_cell_two rfl rfl (run_loadVar_row W9 w.heap.size _ 73 _ _ _ h9 Tryz.underlying73 rfl (by kernel_rfl)) rfl rfl rfl ?_
        unfold RNpP
        rw [HN.out]
        exact ⟨hb9, 5, 0, by decide, rfl⟩
      · have p1 : ((b0 : Int) == 0) = false := by rw [beq_eq_false_iff_ne]; omega
        have HS0 := hid (show Li.ScanP s sc b0 [] none by
          have h := Li.scan_start (s := s) (by omega) (by rw [← HSB.out.2]; exact hz)
          rw [← HSB.out.1, ← HSB.out.2] at h
          exact h)
        have HB0 := hid (show b0 ≤ s.length by rw [HSB.out.2]; exact Li.rhead_le s 4)
        have HW0 := hid (show RcW w sc [] wr from ⟨HZ.out, ⟨_, HD.out, World.ownsRow_nil _ _ _ _⟩, HR.out⟩)
        obtain ⟨i0, hi0, hz0, hz1, hz2⟩ := info_parts Tryz.infoStrR
        clear hz
        go_wp2_with fail
        go_loopw [9, 10, 11, 12] (fun v9 v10 v11 v12 wx => ∃ (ins : Bool) (m b i : Nat) (ws : List (List UInt8)), v9 = .bool ins ∧ v10 = .int .i64 m ∧ v11 = .int .i64 b ∧ v12 = .int .i64 i ∧ b ≤ i ∧ i ≤ s.length ∧ m ≤ 12 ∧ ws.length ≤ 6 ∧ Hid (Li.ScanP s sc i ws (Li.curP s ins m b i)) ∧ Hid (ins = true → ws.length ≤ 5) ∧ Hid (RcW w sc ws wx)) (fun _ _ _ v12 _ => s.length - (RowKit.intOf v12).toNat)
        case atStart => exact ⟨false, 0, 0, b0, [], rfl, rfl, rfl, rfl, Nat.zero_le _, HB0.out, by omega, by simp, HS0.out, (fun h => by cases h), HW0.out⟩
        case round =>
          clear HD HR HZ HS0 HB0 HW0 HSB HD1 HZ1
          obtain ⟨ins, m, b, i, ws, rfl, rfl, rfl, rfl, hbi, hil, hm12, hw6, HS, HI, HW⟩ := hrel
          by_cases hlt : i < s.length
          · have hi0' : (0 : Int) ≤ (i : Int) := by omega
            have hi1 : (i : Int) < (s.length : Int) := by omega
            have hi2 : i < (bs s).size := by omega
            obtain ⟨c, hc⟩ : ∃ c, s[i]? = some c := ⟨_, List.getElem?_eq_getElem hlt⟩
            have hgc : (bs s)[i] = c := Option.some.inj ((by rw [List.getElem?_eq_getElem hlt]; rfl : s[i]? = some (bs s)[i]).symm.trans hc)
            have hu := u8_beq c 32
            rw [show ((32 : UInt8).toNat : Int) = 32 from rfl] at hu
            have HC := hid hc
            clear hc
            obtain ⟨vw, n1, n2⟩ := (HW.out).n
            obtain ⟨va, vc, rfl⟩ := ownsRow_slice n2
            have HN1 := hid (And.intro n1 n2)
            have c0 : wr.cell? ⟨w.heap.size + 1, 0, none⟩ = some (.int .i64 sc) := by simp [World.cell?, n1]
            have c1 : wr.cell? ⟨w.heap.size + 1, 1, none⟩ = some (.slice va ws.length vc) := by simp [World.cell?, n1]
            have g1 : wr.frozen? ⟨w.heap.size + 1, 1, none⟩ = false := by simp [World.frozen?, n1]
            have zn := (Array.getElem?_eq_some_iff.1 n1).1
            clear n1 n2
            by_cases h32 : c = 32
            · rw [beq_iff_eq.2 h32] at hu
              have HBL := hid (Li.scan_blank HS.out (by rw [HC.out, h32]))
              clear h32
              cases ins with
              | false =>
                go_wp2_with fail
                go_roundw
                case rel => exact ⟨false, m, b, i + 1, ws, rfl, rfl, rfl, by go_num, by omega, by omega, hm12, hw6, HBL.out, (fun h => by cases h), HW.out⟩
                case measure => simp [RowKit.intOf]; omega
              | true =>
                have hw5 := HI.out rfl
                obtain ⟨x, hx⟩ : ∃ x, x = (s.drop b).take (i - b) := ⟨_, rfl⟩
                have x2 : (bs s).extract b i = bs x := by
                  rw [hx, extract_bs]
                  rfl
                have HXX := hid hx
                clear hx
                go_upto_region 21 with (fail)
                refine wp_heldS (S := TwoS 9 9 (fun X => X.cell? ⟨w.heap.size + 1, 1, none⟩ = some (.slice va ws.length vc)) (fun _ => True)) (by kernel_rfl) ?_
                simp only [List.size_toArray, List.length_cons, List.length_nil, Nat.reduceAdd]
                intro hc
                have S0 : TwoS 9 9 (fun X => X.cell? ⟨w.heap.size + 1, 1, none⟩ = some (.slice va ws.length vc)) (fun _ => True) (Array.replicate 10 false) wr.drew := ⟨.inr c1, .inr trivial⟩
                refine wpAnyS_take (i := 0) (v := .pointer (some ⟨w.heap.size + 1, 1, none⟩)) rfl (by kernel_rfl) (by kernel_rfl) (by kernel_rfl) (fun _ _ _ h => h) (fun _ _ => TwoS.set_ (by decide) (by decide) _ _) hc (by first | rfl | simp [Region.wanted]) (fun wx hx => ?_) S0 (fun hc S0 => ?_)
                · go_simp
                try simp only [List.getElem_toArray, List.getElem_cons_zero, Act.put, List.setIfInBounds_toArray, List.set_cons_zero, List.set_cons_succ]
                refine wpAnyS_take (i := 1) (v := .slice va ws.length vc) rfl (by kernel_rfl) (by kernel_rfl) (by kernel_rfl) (fun _ _ _ h => h) (fun _ _ => TwoS.set_ (by decide) (by decide) _ _) hc (by first | rfl | simp [Region.wanted]) (fun wx hx => ?_) S0 (fun hc S0 => ?_)
                · have g := hx.left (by kernel_rfl)
                  go_simp
                try simp only [List.getElem_toArray, List.getElem_cons_succ, List.getElem_cons_zero, Act.put, List.setIfInBounds_toArray, List.set_cons_zero, List.set_cons_succ]
                refine wpAnyS_take (i := 2) (v := .string (bs s)) rfl (by kernel_rfl) (by kernel_rfl) (by kernel_rfl) (fun _ _ _ h => h) (fun _ _ => TwoS.set_ (by decide) (by decide) _ _) hc (by first | rfl | simp [Region.wanted]) (fun wx hx => ?_) S0 (fun hc S0 => ?_)
                · go_simp
                try simp only [List.getElem_toArray, List.getElem_cons_succ, List.getElem_cons_zero, Act.put, List.setIfInBounds_toArray, List.set_cons_zero, List.set_cons_succ]
                refine wpAnyS_take (i := 3) (v := .int .i64 b) rfl (by kernel_rfl) (by kernel_rfl) (by kernel_rfl) (fun _ _ _ h => h) (fun _ _ => TwoS.set_ (by decide) (by decide) _ _) hc (by first | rfl | simp [Region.wanted]) (fun wx hx => ?_) S0 (fun hc S0 => ?_)
                · go_simp
                try simp only [List.getElem_toArray, List.getElem_cons_succ, List.getElem_cons_zero, Act.put, List.setIfInBounds_toArray, List.set_cons_zero, List.set_cons_succ]
                refine wpAnyS_take (i := 4) (v := .int .i64 i) rfl (by kernel_rfl) (by kernel_rfl) (by kernel_rfl) (fun _ _ _ h => h) (fun _ _ => TwoS.set_ (by decide) (by decide) _ _) hc (by first | rfl | simp [Region.wanted]) (fun wx hx => ?_) S0 (fun hc S0 => ?_)
                · go_simp
                try simp only [List.getElem_toArray, List.getElem_cons_succ, List.getElem_cons_zero, Act.put, List.setIfInBounds_toArray, List.set_cons_zero, List.set_cons_succ]
                refine wpAnyS_take (i := 5) (v := .string (bs x)) rfl (by kernel_rfl) (by kernel_rfl) (by kernel_rfl) (fun _ _ _ h => h) (fun _ _ => TwoS.set_ (by decide) (by decide) _ _) hc (by first | rfl | simp [Region.wanted]) (fun wx hx => ?_) S0 (fun hc S0 => ?_)
                · go_simp
                try simp only [List.getElem_toArray, List.getElem_cons_succ, List.getElem_cons_zero, Act.put, List.setIfInBounds_toArray, List.set_cons_zero, List.set_cons_succ]
                refine wpAnyS_one (i := 6) rfl (by kernel_rfl) (by rfl) hc (fun K' hK => ?_)
                go_simp
                have q1 := (World.cell?_alloc_lt wr (.cells #[.string (bs x)] 9) ⟨w.heap.size + 1, 1, none⟩ zn).trans c1
                refine hK.out _ _ ⟨.inr q1, .inr trivial⟩ (fun hc => ?_)
                clear hK K'
                try simp only [List.getElem_toArray, List.getElem_cons_succ, List.getElem_cons_zero, Act.put, List.setIfInBounds_toArray, List.set_cons_zero, List.set_cons_succ]
                have hown := (HN1.out.2.alloc (.cells #[.string (bs x)] 9)).drew
                refine wpAnyS_one (i := 7) rfl (by kernel_rfl) (by rfl) hc (fun K' hK => ?_)
                refine wp_append_own _ _ _ 68 rfl (w.heap.size + 2) 9 i0 (.string ⟨#[]⟩) 1 16 Tryz.underlying68 hi0 hz0 hz1 hz2 rfl (by decide) _ _ _ rfl hown ⟨wr.heap.size, 0, none⟩ 1 1 [.string (bs x)] rfl rfl (cell_one_new _ _ _) (by simp [Value.oneCell']) (by unfold maxLen; omega) (by omega) (by show _ ≤ (wr.alloc _).heap.size; rw [World.size_alloc]; omega) ?_
                intro v' w8 ho8 hg8 _
                obtain ⟨v8, c8, rfl⟩ := ownsRow_slice ho8
                have n8 : w8.heap[w.heap.size + 1]? = some (.cells #[.int .i64 sc, .slice va ws.length vc] 73 (0, 0)) :=
                  (hg8.block _ (by show w.heap.size + 1 < (wr.alloc _).heap.size; rw [World.size_alloc]; omega) (fun e => by
                    have := (own_cells HN1.out.2 e.symm).1
                    omega)).trans ((Below.heap_alloc wr _ _ zn).trans HN1.out.1)
                have c81 : w8.cell? ⟨w.heap.size + 1, 1, none⟩ = some (.slice va ws.length vc) := by simp [World.cell?, n8]
                have f81 : w8.frozen? ⟨w.heap.size + 1, 1, none⟩ = false := by simp [World.frozen?, n8]
                have z81 := (Array.getElem?_eq_some_iff.1 n8).1
                have HA8 := hid ((HW.out).append (ws' := ws ++ [x]) (((Below.refl _ wr).alloc (Nat.le_refl _) (.cells #[.string (bs x)] 9)).drew) HN1.out.1 HN1.out.2 hg8 (by rw [List.length_append, List.flatMap_append]; exact ho8))
                refine hK.out _ _ ⟨.inr c81, .inr trivial⟩ (fun hc => ?_)
                clear hown ho8 hg8 n8 q1
                clear hK K'
                try simp only [List.getElem_toArray, List.getElem_cons_succ, List.getElem_cons_zero, Act.put, List.setIfInBounds_toArray, List.set_cons_zero, List.set_cons_succ]
                refine wpAnyS_one (i := 8) rfl (by kernel_rfl) (by rfl) hc (fun K' hK => ?_)
                go_simp
                refine hK.out _ _ ⟨.inr c81, .inr trivial⟩ (fun hc => ?_)
                clear hK K'
                try simp only [List.getElem_toArray, List.getElem_cons_succ, List.getElem_cons_zero, Act.put, List.setIfInBounds_toArray, List.set_cons_zero, List.set_cons_succ]
                refine wpAnyS_one (i := 9) rfl (by kernel_rfl) (by rfl) hc (fun K' hK => ?_)
                go_simp
                refine hK.out _ _ ⟨.inl rfl, .inl rfl⟩ (fun hc => ?_)
                clear hK K'
                try simp only [List.getElem_toArray, List.getElem_cons_succ, List.getElem_cons_zero, Act.put, List.setIfInBounds_toArray, List.set_cons_zero, List.set_cons_succ]
                refine wpAnyS_done (by kernel_rfl) ?_ _
                clear hc S0
                go_wp2_with fail
                go_roundw
                case rel =>
                  refine ⟨false, m, b, i + 1, ws ++ [x], rfl, rfl, rfl, by go_num, by omega, by omega, hm12, by simp; omega, ?_, (fun h => by cases h), HA8.out⟩
                  rw [HXX.out]
                  exact HBL.out
                case measure => simp [RowKit.intOf]; omega
            · rw [beq_eq_false_iff_ne.2 h32] at hu
              have HLE := hid (rlength_any sc s i wr (by omega) (by omega))
              obtain ⟨n, hn⟩ : ∃ n, n = Sc.len sc (s.drop i) := ⟨_, rfl⟩
              rw [← hn] at HLE
              have hnl := Sc.len_le sc (s.drop i)
              rw [← hn, List.length_drop] at hnl
              have HNN := hid hn
              have H32 := hid h32
              clear hn h32
              go_wp2_with fail
              refine (HLE.out).mono ?_
              rintro e w2 ⟨rfl, hb2⟩
              have HW2 := hid (HW.out.step hb2)
              clear hb2 c0 c1 g1 zn HN1 HLE
              obtain ⟨vw, n1, n2⟩ := (HW2.out).n
              obtain ⟨va, vc, rfl⟩ := ownsRow_slice n2
              have HN1 := hid (And.intro n1 n2)
              have c0 : w2.cell? ⟨w.heap.size + 1, 0, none⟩ = some (.int .i64 sc) := by simp [World.cell?, n1]
              have c1 : w2.cell? ⟨w.heap.size + 1, 1, none⟩ = some (.slice va ws.length vc) := by simp [World.cell?, n1]
              have g1 : w2.frozen? ⟨w.heap.size + 1, 1, none⟩ = false := by simp [World.frozen?, n1]
              have zn := (Array.getElem?_eq_some_iff.1 n1).1
              clear n1 n2
              by_cases hz : n = 0
              · have r1 : ((n : Int) == 0) = true := by rw [hz]; rfl
                have HZN := hid hz
                clear hz
                have hzr := (HW2.out).d
                have a0 : w2.cell? ⟨w.heap.size, 0, none⟩ = some (.int .i64 0) := by simp [World.cell?, hzr]
                have a1 : w2.cell? ⟨w.heap.size, 1, none⟩ = some (.slice none 0 0) := by simp [World.cell?, hzr]
                have f0 : w2.frozen? ⟨w.heap.size, 0, none⟩ = false := by simp [World.frozen?, hzr]
                have f1 : w2.frozen? ⟨w.heap.size, 1, none⟩ = false := by simp [World.frozen?, hzr]
                have hzl := (Array.getElem?_eq_some_iff.1 hzr).1
                clear hzr
                have HN := hid (show Li.rnameP s = none from Li.scan_char HS.out HC.out H32.out (by rw [← HNN.out]; exact HZN.out))
                go_wp2_with fail
                obtain ⟨hh, hbx, -⟩ := (HW2.out).stored (.int .i64 0) (.slice none 0 0)
                refine post_cell_two rfl rfl (run_loadVar_row _ w.heap.size _ 73 _ _ _ hh Tryz.underlying73 rfl (by kernel_rfl)) rfl rfl rfl ?_
                unfold RNpP
                rw [HN.out]
                exact ⟨hbx, 3, _, by decide, rfl⟩
              · have r1 : ((n : Int) == 0) = false := by rw [beq_eq_false_iff_ne]; omega
                have HZN := hid hz
                clear hz
                cases ins with
                | false =>
                  by_cases h6 : ws.length = 6
                  · have r2 : ((ws.length : Int) == 6) = true := by rw [h6]; rfl
                    have H6 := hid h6
                    clear h6
                    have hzr := (HW2.out).d
                    have a0 : w2.cell? ⟨w.heap.size, 0, none⟩ = some (.int .i64 0) := by simp [World.cell?, hzr]
                    have a1 : w2.cell? ⟨w.heap.size, 1, none⟩ = some (.slice none 0 0) := by simp [World.cell?, hzr]
                    have f0 : w2.frozen? ⟨w.heap.size, 0, none⟩ = false := by simp [World.frozen?, hzr]
                    have f1 : w2.frozen? ⟨w.heap.size, 1, none⟩ = false := by simp [World.frozen?, hzr]
                    have hzl := (Array.getElem?_eq_some_iff.1 hzr).1
                    clear hzr
                    have HN := hid (show Li.rnameP s = none from Li.scan_six HS.out HC.out H32.out (by rw [← HNN.out]; exact HZN.out) H6.out)
                    go_wp2_with fail
                    obtain ⟨hh, hbx, -⟩ := (HW2.out).stored (.int .i64 0) (.slice none 0 0)
                    refine post_cell_two rfl rfl (run_loadVar_row _ w.heap.size _ 73 _ _ _ hh Tryz.underlying73 rfl (by kernel_rfl)) rfl rfl rfl ?_
                    unfold RNpP
                    rw [HN.out]
                    exact ⟨hbx, 2, _, by decide, rfl⟩
                  · have r2 : ((ws.length : Int) == 6) = false := by rw [beq_eq_false_iff_ne]; omega
                    have HF := hid (Li.scan_first HS.out HC.out H32.out (by rw [← HNN.out]; exact HZN.out) h6)
                    rw [← HNN.out, Li.cur_first] at HF
                    have HZ0 := HZN.out
                    go_wp2_with fail
                    go_roundw
                    case rel => exact ⟨true, 1, i, i + n, ws, rfl, rfl, rfl, by go_num, by omega, by omega, by omega, hw6, HF.out, fun _ => by omega, HW2.out⟩
                    case measure => simp [RowKit.intOf]; omega
                | true =>
                  have hcur : Li.curP s true m b i = some ((s.drop b).take (i - b), m) := rfl
                  rw [hcur] at HS
                  clear hcur
                  by_cases h12 : 12 < m + 1
                  · have r2 : decide ((12 : Int) < (m : Int) + 1) = true := decide_eq_true (by omega)
                    have H12 := hid h12
                    clear h12
                    have hzr := (HW2.out).d
                    have a0 : w2.cell? ⟨w.heap.size, 0, none⟩ = some (.int .i64 0) := by simp [World.cell?, hzr]
                    have a1 : w2.cell? ⟨w.heap.size, 1, none⟩ = some (.slice none 0 0) := by simp [World.cell?, hzr]
                    have f0 : w2.frozen? ⟨w.heap.size, 0, none⟩ = false := by simp [World.frozen?, hzr]
                    have f1 : w2.frozen? ⟨w.heap.size, 1, none⟩ = false := by simp [World.frozen?, hzr]
                    have hzl := (Array.getElem?_eq_some_iff.1 hzr).1
                    clear hzr
                    have HN := hid (show Li.rnameP s = none from Li.scan_twelve HS.out HC.out H32.out (by rw [← HNN.out]; exact HZN.out) H12.out)
                    go_wp2_with fail
                    obtain ⟨hh, hbx, -⟩ := (HW2.out).stored (.int .i64 0) (.slice none 0 0)
                    refine post_cell_two rfl rfl (run_loadVar_row _ w.heap.size _ 73 _ _ _ hh Tryz.underlying73 rfl (by kernel_rfl)) rfl rfl rfl ?_
                    unfold RNpP
                    rw [HN.out]
                    exact ⟨hbx, 2, _, by decide, rfl⟩
                  · have r2 : decide ((12 : Int) < (m : Int) + 1) = false := decide_eq_false (by omega)
                    have HF := hid (Li.scan_more HS.out HC.out H32.out (by rw [← HNN.out]; exact HZN.out) h12)
                    rw [← HNN.out, Li.cur_more s n hbi] at HF
                    have HZ0 := HZN.out
                    have hw5 := HI.out rfl
                    go_wp2_with fail
                    go_roundw
                    case rel => exact ⟨true, m + 1, b, i + n, ws, rfl, by go_num, rfl, by go_num, by omega, by omega, by omega, hw6, HF.out, fun _ => hw5, HW2.out⟩
                    case measure => simp [RowKit.intOf]; omega
          · have hi1 : ¬ (i : Int) < (s.length : Int) := by omega
            have hie : i = s.length := by omega
            have HE := hid (Li.scan_end HS.out (by omega))
            obtain ⟨vw, n1, n2⟩ := (HW.out).n
            obtain ⟨va, vc, rfl⟩ := ownsRow_slice n2
            have HN1 := hid (And.intro n1 n2)
            have c0 : wr.cell? ⟨w.heap.size + 1, 0, none⟩ = some (.int .i64 sc) := by simp [World.cell?, n1]
            have c1 : wr.cell? ⟨w.heap.size + 1, 1, none⟩ = some (.slice va ws.length vc) := by simp [World.cell?, n1]
            have g1 : wr.frozen? ⟨w.heap.size + 1, 1, none⟩ = false := by simp [World.frozen?, n1]
            have zn := (Array.getElem?_eq_some_iff.1 n1).1
            clear n1 n2
            cases ins with
            | false =>
              have hfn : Li.fin ws (Li.curP s false m b i) = ws := rfl
              rw [hfn] at HE
              clear hfn
              by_cases h0 : ws.length = 0
              · have r2 : ((ws.length : Int) == 0) = true := by rw [h0]; rfl
                have HN0 := hid (show Li.rnameP s = none by rw [HE.out, List.length_eq_zero_iff.1 h0]; rfl)
                clear h0 hie
                have hzr := (HW.out).d
                have a0 : wr.cell? ⟨w.heap.size, 0, none⟩ = some (.int .i64 0) := by simp [World.cell?, hzr]
                have a1 : wr.cell? ⟨w.heap.size, 1, none⟩ = some (.slice none 0 0) := by simp [World.cell?, hzr]
                have f0 : wr.frozen? ⟨w.heap.size, 0, none⟩ = false := by simp [World.frozen?, hzr]
                have f1 : wr.frozen? ⟨w.heap.size, 1, none⟩ = false := by simp [World.frozen?, hzr]
                have hzl := (Array.getElem?_eq_some_iff.1 hzr).1
                clear hzr
                have HN := hid (show Li.rnameP s = none from HN0.out)
                go_wp2_with fail
                obtain ⟨hh, hbx, -⟩ := (HW.out).stored (.int .i64 0) (.slice none 0 0)
                refine post_cell_two rfl rfl (run_loadVar_row _ w.heap.size _ 73 _ _ _ hh Tryz.underlying73 rfl (by kernel_rfl)) rfl rfl rfl ?_
                unfold RNpP
                rw [HN.out]
                exact ⟨hbx, 6, _, by decide, rfl⟩
              · have r2 : ((ws.length : Int) == 0) = false := by rw [beq_eq_false_iff_ne]; omega
                have HN0 := hid (show Li.rnameP s = some ⟨sc, ws⟩ by
                  rw [HE.out]
                  unfold Li.outP
                  simp only
                  rw [if_neg (fun e => h0 (by rw [e]; rfl))])
                clear h0 hie
                have hzr := (HW.out).d
                have a0 : wr.cell? ⟨w.heap.size, 0, none⟩ = some (.int .i64 0) := by simp [World.cell?, hzr]
                have a1 : wr.cell? ⟨w.heap.size, 1, none⟩ = some (.slice none 0 0) := by simp [World.cell?, hzr]
                have f0 : wr.frozen? ⟨w.heap.size, 0, none⟩ = false := by simp [World.frozen?, hzr]
                have f1 : wr.frozen? ⟨w.heap.size, 1, none⟩ = false := by simp [World.frozen?, hzr]
                have hzl := (Array.getElem?_eq_some_iff.1 hzr).1
                clear hzr
                have HN := hid (show Li.rnameP s = some ⟨sc, ws⟩ from HN0.out)
                go_wp2_with fail
                obtain ⟨hh, hbx, hfar⟩ := (HW.out).stored (.int .i64 sc) (.slice va (ws.length) vc)
                have ho9 := ownsRow_base (ownsRow_far HN1.out.2 fun g o hg ho _ => (hfar g (by omega)).trans ho) (show w.heap.size ≤ w.heap.size + 2 by omega)
                refine post_cell_two rfl rfl (run_loadVar_row _ w.heap.size _ 73 _ _ _ hh Tryz.underlying73 rfl (by kernel_rfl)) rfl rfl rfl ?_
                unfold RNpP
                rw [HN.out]
                exact ⟨hbx, _, _, rfl, ho9⟩
            | true =>
              have hw5 := HI.out rfl
              have HN0 := hid (show Li.rnameP s = some ⟨sc, ws ++ [(s.drop b).take (s.length - b)]⟩ by
                rw [HE.out, hie]
                show Li.outP sc (some (ws ++ [(s.drop b).take (s.length - b)])) = _
                unfold Li.outP
                simp only
                rw [if_neg (by simp)])
              have hbl2 : b ≤ s.length := by omega
              clear hie
              obtain ⟨x, hx⟩ : ∃ x, x = (s.drop b).take (s.length - b) := ⟨_, rfl⟩
              have x2 : (bs s).extract b s.length = bs x := by
                rw [hx, extract_bs]
                rfl
              have HXX := hid hx
              clear hx
              go_upto_region 38 with (fail)
              refine wp_heldS (S := TwoS 8 8 (fun X => X.cell? ⟨w.heap.size + 1, 1, none⟩ = some (.slice va ws.length vc)) (fun _ => True)) (by kernel_rfl) ?_
              simp only [List.size_toArray, List.length_cons, List.length_nil, Nat.reduceAdd]
              intro hc
              have S0 : TwoS 8 8 (fun X => X.cell? ⟨w.heap.size + 1, 1, none⟩ = some (.slice va ws.length vc)) (fun _ => True) (Array.replicate 9 false) wr.drew := ⟨.inr c1, .inr trivial⟩
              refine wpAnyS_take (i := 0) (v := .pointer (some ⟨w.heap.size + 1, 1, none⟩)) rfl (by kernel_rfl) (by kernel_rfl) (by kernel_rfl) (fun _ _ _ h => h) (fun _ _ => TwoS.set_ (by decide) (by decide) _ _) hc (by first | rfl | simp [Region.wanted]) (fun wx hx => ?_) S0 (fun hc S0 => ?_)
              · go_simp
              try simp only [List.getElem_toArray, List.getElem_cons_zero, Act.put, List.setIfInBounds_toArray, List.set_cons_zero, List.set_cons_succ]
              refine wpAnyS_take (i := 1) (v := .slice va ws.length vc) rfl (by kernel_rfl) (by kernel_rfl) (by kernel_rfl) (fun _ _ _ h => h) (fun _ _ => TwoS.set_ (by decide) (by decide) _ _) hc (by first | rfl | simp [Region.wanted]) (fun wx hx => ?_) S0 (fun hc S0 => ?_)
              · have g := hx.left (by kernel_rfl)
                go_simp
              try simp only [List.getElem_toArray, List.getElem_cons_succ, List.getElem_cons_zero, Act.put, List.setIfInBounds_toArray, List.set_cons_zero, List.set_cons_succ]
              refine wpAnyS_take (i := 2) (v := .string (bs s)) rfl (by kernel_rfl) (by kernel_rfl) (by kernel_rfl) (fun _ _ _ h => h) (fun _ _ => TwoS.set_ (by decide) (by decide) _ _) hc (by first | rfl | simp [Region.wanted]) (fun wx hx => ?_) S0 (fun hc S0 => ?_)
              · go_simp
              try simp only [List.getElem_toArray, List.getElem_cons_succ, List.getElem_cons_zero, Act.put, List.setIfInBounds_toArray, List.set_cons_zero, List.set_cons_succ]
              refine wpAnyS_take (i := 3) (v := .int .i64 b) rfl (by kernel_rfl) (by kernel_rfl) (by kernel_rfl) (fun _ _ _ h => h) (fun _ _ => TwoS.set_ (by decide) (by decide) _ _) hc (by first | rfl | simp [Region.wanted]) (fun wx hx => ?_) S0 (fun hc S0 => ?_)
              · go_simp
              try simp only [List.getElem_toArray, List.getElem_cons_succ, List.getElem_cons_zero, Act.put, List.setIfInBounds_toArray, List.set_cons_zero, List.set_cons_succ]
              refine wpAnyS_take (i := 4) (v := .string (bs x)) rfl (by kernel_rfl) (by kernel_rfl) (by kernel_rfl) (fun _ _ _ h => h) (fun _ _ => TwoS.set_ (by decide) (by decide) _ _) hc (by first | rfl | simp [Region.wanted]) (fun wx hx => ?_) S0 (fun hc S0 => ?_)
              · go_simp
              try simp only [List.getElem_toArray, List.getElem_cons_succ, List.getElem_cons_zero, Act.put, List.setIfInBounds_toArray, List.set_cons_zero, List.set_cons_succ]
              refine wpAnyS_one (i := 5) rfl (by kernel_rfl) (by rfl) hc (fun K' hK => ?_)
              go_simp
              have q1 := (World.cell?_alloc_lt wr (.cells #[.string (bs x)] 9) ⟨w.heap.size + 1, 1, none⟩ zn).trans c1
              refine hK.out _ _ ⟨.inr q1, .inr trivial⟩ (fun hc => ?_)
              clear hK K'
              try simp only [List.getElem_toArray, List.getElem_cons_succ, List.getElem_cons_zero, Act.put, List.setIfInBounds_toArray, List.set_cons_zero, List.set_cons_succ]
              have hown := (HN1.out.2.alloc (.cells #[.string (bs x)] 9)).drew
              refine wpAnyS_one (i := 6) rfl (by kernel_rfl) (by rfl) hc (fun K' hK => ?_)
              refine wp_append_own _ _ _ 68 rfl (w.heap.size + 2) 9 i0 (.string ⟨#[]⟩) 1 16 Tryz.underlying68 hi0 hz0 hz1 hz2 rfl (by decide) _ _ _ rfl hown ⟨wr.heap.size, 0, none⟩ 1 1 [.string (bs x)] rfl rfl (cell_one_new _ _ _) (by simp [Value.oneCell']) (by unfold maxLen; omega) (by omega) (by show _ ≤ (wr.alloc _).heap.size; rw [World.size_alloc]; omega) ?_
              intro v' w8 ho8 hg8 _
              obtain ⟨v8, c8, rfl⟩ := ownsRow_slice ho8
              have n8 : w8.heap[w.heap.size + 1]? = some (.cells #[.int .i64 sc, .slice va ws.length vc] 73 (0, 0)) :=
                (hg8.block _ (by show w.heap.size + 1 < (wr.alloc _).heap.size; rw [World.size_alloc]; omega) (fun e => by
                  have := (own_cells HN1.out.2 e.symm).1
                  omega)).trans ((Below.heap_alloc wr _ _ zn).trans HN1.out.1)
              have c81 : w8.cell? ⟨w.heap.size + 1, 1, none⟩ = some (.slice va ws.length vc) := by simp [World.cell?, n8]
              have f81 : w8.frozen? ⟨w.heap.size + 1, 1, none⟩ = false := by simp [World.frozen?, n8]
              have z81 := (Array.getElem?_eq_some_iff.1 n8).1
              have HA8 := hid ((HW.out).append (ws' := ws ++ [x]) (((Below.refl _ wr).alloc (Nat.le_refl _) (.cells #[.string (bs x)] 9)).drew) HN1.out.1 HN1.out.2 hg8 (by rw [List.length_append, List.flatMap_append]; exact ho8))
              refine hK.out _ _ ⟨.inr c81, .inr trivial⟩ (fun hc => ?_)
              clear hown ho8 hg8 n8 q1
              clear hK K'
              try simp only [List.getElem_toArray, List.getElem_cons_succ, List.getElem_cons_zero, Act.put, List.setIfInBounds_toArray, List.set_cons_zero, List.set_cons_succ]
              refine wpAnyS_one (i := 7) rfl (by kernel_rfl) (by rfl) hc (fun K' hK => ?_)
              go_simp
              refine hK.out _ _ ⟨.inr c81, .inr trivial⟩ (fun hc => ?_)
              clear hK K'
              try simp only [List.getElem_toArray, List.getElem_cons_succ, List.getElem_cons_zero, Act.put, List.setIfInBounds_toArray, List.set_cons_zero, List.set_cons_succ]
              refine wpAnyS_one (i := 8) rfl (by kernel_rfl) (by rfl) hc (fun K' hK => ?_)
              go_simp
              refine hK.out _ _ ⟨.inl rfl, .inl rfl⟩ (fun hc => ?_)
              clear hK K'
              try simp only [List.getElem_toArray, List.getElem_cons_succ, List.getElem_cons_zero, Act.put, List.setIfInBounds_toArray, List.set_cons_zero, List.set_cons_succ]
              refine wpAnyS_done (by kernel_rfl) ?_ _
              clear hc S0
              obtain ⟨W9, hW9⟩ : ∃ W9, W9 = w8.setCell ⟨w.heap.size + 1, 1, none⟩ (.slice v8 (ws.length + 1) c8) := ⟨_, rfl⟩
              have HX9 := hid (show RcW w sc (ws ++ [x]) W9 by rw [hW9]; exact HA8.out)
              rw [← hW9]
              clear hW9 HA8 c81 f81 z81 c0 c1 g1 zn HN1
              obtain ⟨vw, n1, n2⟩ := (HX9.out).n
              obtain ⟨vb, vd, rfl⟩ := ownsRow_slice n2
              obtain ⟨m9, hm9⟩ : ∃ m9, m9 = (ws ++ [x]).length := ⟨_, rfl⟩
              rw [← hm9] at n1 n2
              have HN2 := hid n2
              have r2 : ((m9 : Int) == 0) = false := by rw [beq_eq_false_iff_ne, hm9, List.length_append]; simp; omega
              have HM9 := hid hm9
              have c0 : W9.cell? ⟨w.heap.size + 1, 0, none⟩ = some (.int .i64 sc) := by simp [World.cell?, n1]
              have c1 : W9.cell? ⟨w.heap.size + 1, 1, none⟩ = some (.slice vb m9 vd) := by simp [World.cell?, n1]
              have zn := (Array.getElem?_eq_some_iff.1 n1).1
              clear n1 n2 hm9
              have hzr := (HX9.out).d
              have a0 : W9.cell? ⟨w.heap.size, 0, none⟩ = some (.int .i64 0) := by simp [World.cell?, hzr]
              have a1 : W9.cell? ⟨w.heap.size, 1, none⟩ = some (.slice none 0 0) := by simp [World.cell?, hzr]
              have f0 : W9.frozen? ⟨w.heap.size, 0, none⟩ = false := by simp [World.frozen?, hzr]
              have f1 : W9.frozen? ⟨w.heap.size, 1, none⟩ = false := by simp [World.frozen?, hzr]
              have hzl := (Array.getElem?_eq_some_iff.1 hzr).1
              clear hzr
              have HN := hid (show Li.rnameP s = some ⟨sc, ws ++ [x]⟩ by rw [HN0.out, HXX.out])
              go_wp2_with fail
              obtain ⟨hh, hbx, hfar⟩ := (HX9.out).stored (.int .i64 sc) (.slice vb m9 vd)
              have ho9 := ownsRow_base (ownsRow_far HN2.out fun g o hg ho _ => (hfar g (by omega)).trans ho) (show w.heap.size ≤ w.heap.size + 2 by omega)
              have ho10 : ((W9.setCell ⟨w.heap.size, 0, none⟩ (.int .i64 sc)).setCell ⟨w.heap.size, 1, none⟩ (.slice vb m9 vd)).ownsRow w.heap.size 9 1 (.slice vb m9 vd) (ws ++ [x]).length ((ws ++ [x]).flatMap strC) := by rw [← HM9.out]; exact ho9
              refine post_cell_two rfl rfl (run_loadVar_row _ w.heap.size _ 73 _ _ _ hh Tryz.underlying73 rfl (by kernel_rfl)) rfl rfl rfl ?_
              unfold RNpP
              rw [HN.out]
              exact ⟨hbx, _, _, rfl, ho10⟩

end Go.Proofs.YtidkmhokolknbaaGreatDoor

namespace Li
open Sc

theorem rscan_short {k : Int} {M : Nat} : ∀ (f : Nat) (s : List UInt8) (ws : List (List UInt8)) (cur : Option (List UInt8 × Nat)) (l : List (List UInt8)), rscan k f s ws cur = some l → (∀ x ∈ ws, x.length ≤ M) → s.length ≤ M → (∀ p, cur = some p → p.1.length + s.length ≤ M) → ∀ x ∈ l, x.length ≤ M := by
  have hfin : ∀ (ws : List (List UInt8)) (cur : Option (List UInt8 × Nat)), (∀ x ∈ ws, x.length ≤ M) → (∀ p, cur = some p → p.1.length ≤ M) → ∀ x ∈ fin ws cur, x.length ≤ M := by
    intro ws cur h1 h2 x hx
    cases cur with
    | none => exact h1 x hx
    | some p =>
      rcases List.mem_append.1 hx with hx | hx
      · exact h1 x hx
      · rw [List.mem_singleton.1 hx]; exact h2 p rfl
  intro f
  induction f with
  | zero => intro s ws cur l h; simp [rscan] at h
  | succ f ih =>
    intro s ws cur l h h1 h2 h3
    cases s with
    | nil =>
      simp only [rscan, Option.some.injEq] at h
      rw [← h]
      exact hfin ws cur h1 (fun p hp => by have := h3 p hp; simpa using this)
    | cons c r =>
      have hl := len_le k (c :: r)
      simp only [List.length_cons] at h2 h3 hl
      rw [rscan.eq_def] at h
      simp only at h
      split at h
      · exact ih r _ none l h (hfin ws cur h1 (fun p hp => by have := h3 p hp; omega)) (by omega) (fun p hp => by cases hp)
      · split at h
        · cases h
        · rename_i h0
          cases cur with
          | none =>
            simp only at h
            split at h
            · cases h
            · exact ih _ _ _ l h h1 (by rw [List.length_drop]; simp only [List.length_cons]; omega) (fun p hp => by cases hp; simp only [List.length_take, List.length_drop, List.length_cons]; omega)
          | some q =>
            have h4 := h3 q rfl
            simp only at h
            split at h
            · cases h
            · exact ih _ _ _ l h h1 (by rw [List.length_drop]; simp only [List.length_cons]; omega) (fun p hp => by cases hp; simp only [List.length_append, List.length_take, List.length_drop, List.length_cons]; omega)
theorem rnameP_short {s : List UInt8} {n : Nm} (h : rnameP s = some n) (hs : s.length ≤ 5000) : ∀ x ∈ n.words, x.length ≤ 1000000 := by
  unfold rnameP at h
  split at h
  · cases h
  · split at h
    · cases h
    · cases hr : rscan (rhead s 4).1 (s.length + 1) (s.drop (rhead s 4).2) [] none with
      | none => rw [hr] at h; cases h
      | some ws =>
        rw [hr] at h
        simp only at h
        split at h
        · cases h
        · cases h
          intro x hx
          have := rscan_short (M := 5000) _ _ _ _ _ hr (by simp) (by rw [List.length_drop]; omega) (fun p hp => by cases hp) x hx
          omega
/-- the kind, told in four steps -/
def kd1 (x : List UInt8) : Int := if x = wAdd then 1 else 0
def kd2 (x : List UInt8) : Int := if x = wRemove then 2 else kd1 x
def kd3 (x : List UInt8) : Int := if x = wCorrect then 3 else kd2 x
def kd4 (x : List UInt8) : Int := if x = wVoid then 4 else kd3 x
theorem kd4_kind (x : List UInt8) : kd4 x = kindOf x := by
  unfold kd4 kd3 kd2 kd1 kindOf
  by_cases h1 : x = wAdd
  · subst h1; decide
  · by_cases h2 : x = wRemove
    · subst h2; decide
    · by_cases h3 : x = wCorrect
      · subst h3; decide
      · rw [if_neg h1, if_neg h1, if_neg h2, if_neg h2, if_neg h3, if_neg h3]
theorem rparse_short {s : List UInt8} {l : List (Nat × Lx.Tk)} {x y : Int} (h : Lx.lex s = (l, x, y)) (hb : x ≠ 0 ∨ l.length < 3) : rparse s = none := by
  unfold rparse
  rw [h]
  simp only
  rw [if_pos (by rcases hb with h | h; exact .inl h; exact .inr (by unfold Lx.toks; rw [List.length_map]; exact h))]
theorem rparse_long {s : List UInt8} {l : List (Nat × Lx.Tk)} {x y : Int} (h : Lx.lex s = (l, x, y)) (hx : x = 0) (h3 : ¬ l.length < 3) {cb : Ch} {rb : List Lx.Tk} (hb : rbegin (Lx.toks l) = (cb, rb)) :
    rparse s = match rnames cb rb with | none => none | some c => if text c = some s then some c else none := by
  unfold rparse
  rw [h]
  simp only
  rw [if_neg (by rintro (h | h); exact h hx; exact h3 (by unfold Lx.toks at h; rwa [List.length_map] at h)), hb]
  cases rnames cb rb <;> rfl
theorem rbegin_dated {p0 p1 p2 : Lx.Tk} {r : List Lx.Tk} (h : kindOf p0.text = 1 ∨ kindOf p0.text = 2) : rbegin (p0 :: p1 :: p2 :: r) = (⟨kindOf p0.text, p1.text, ⟨[], []⟩, p2.n⟩, (p0 :: p1 :: p2 :: r).drop 3) := by
  unfold rbegin
  simp only
  rw [if_pos h]
  rfl
theorem rbegin_plain {p0 p1 p2 : Lx.Tk} {r : List Lx.Tk} (h : ¬ (kindOf p0.text = 1 ∨ kindOf p0.text = 2)) : rbegin (p0 :: p1 :: p2 :: r) = (⟨kindOf p0.text, p1.text, ⟨[], []⟩, 0⟩, (p0 :: p1 :: p2 :: r).drop 2) := by
  unfold rbegin
  simp only
  rw [if_neg h]
  rfl
theorem rnames_stop {c : Ch} {l : List Lx.Tk} (h : ∀ t r, l = t :: r → ¬ t.kind = 3) : rnames c l = some c := by
  cases l with
  | nil => rfl
  | cons t r => rw [rnames, if_neg (h t r rfl)]
theorem rnames_some {c : Ch} {t : Lx.Tk} {r : List Lx.Tk} {n : Nm} (h : t.kind = 3) (hn : rnameP t.text = some n) : rnames c (t :: r) = rnames { c with en := ⟨c.id, c.en.names ++ [n]⟩ } r := by
  rw [rnames, if_pos h, hn]
theorem rnames_none {c : Ch} {t : Lx.Tk} {r : List Lx.Tk} (h : t.kind = 3) (hn : rnameP t.text = none) : rnames c (t :: r) = none := by
  rw [rnames, if_pos h, hn]

end Li
namespace Go.Proofs.YtidkmhokolknbaaGreatDoor
open Go.RowKit Go.Lib Go.Maps

/-- the kind is set -/
theorem PaW.kind_ {w1 W : World} {p : Nat} {c : Li.Ch} {u : Value} {ps : List (Li.Nm × Value)} (h : PaW w1 W p c u ps) (a : Int) : PaW w1 (W.setCell ⟨p, 0, none⟩ (.int .i64 a)) p { c with kind := a } u ps := by
  obtain ⟨h1, h2, h3, h4, h5⟩ := h
  exact ⟨h1, by simp [World.setCell, Array.getElem?_modify, h2], h3.set 0 _ h2, h4.setCell (p := ⟨p, 0, none⟩) h5 _, h5⟩
/-- the entry's Id is set -/
theorem PaW.eid_ {w1 W : World} {p : Nat} {c : Li.Ch} {u : Value} {ps : List (Li.Nm × Value)} (h : PaW w1 W p c u ps) (a : List UInt8) : PaW w1 (W.setCell ⟨p, 2, none⟩ (.string (bs a))) p { c with en := ⟨a, c.en.names⟩ } u ps := by
  obtain ⟨h1, h2, h3, h4, h5⟩ := h
  exact ⟨h1, by simp [World.setCell, Array.getElem?_modify, h2], h3.set 2 _ h2, h4.setCell (p := ⟨p, 2, none⟩) h5 _, h5⟩
/-- a name more -/
theorem PaW.more {w1 W X w8 : World} {p : Nat} {c : Li.Ch} {u v8 nv : Value} {ps : List (Li.Nm × Value)} {nm : Li.Nm} (h : PaW w1 W p c u ps) (hX : Below W.heap.size W X) (hg : X.grownBy w8 u.ownBlock) (ho : w8.ownsRow w1.heap.size 73 2 v8 (ps ++ [(nm, nv)]).length ((ps ++ [(nm, nv)]).flatMap nmC))
    (hn : X.ownsRow w1.heap.size 9 1 nv nm.words.length (nm.words.flatMap strC)) (hs : shortN nm) :
    PaW w1 (w8.setCell ⟨p, 3, none⟩ v8) p { c with en := ⟨c.en.id, c.en.names ++ [nm]⟩ } v8 (ps ++ [(nm, nv)]) := by
  obtain ⟨h1, h2, h3, h4, h5⟩ := h
  have hXp := (hX.block _ (Array.getElem?_eq_some_iff.1 h2).1).trans h2
  have hXu := ownsRow_below h3.1 hX
  have hp8 : w8.heap[p]? = some (.cells #[.int .i64 c.kind, .string (bs c.id), .string (bs c.en.id), u, .int .i64 c.at_] 27 (0, 0)) :=
    (hg.block p (Array.getElem?_eq_some_iff.1 hXp).1 (fun e => by
      obtain ⟨_, cs, h7⟩ := own_cells hXu e.symm
      rw [hXp] at h7; cases h7)).trans hXp
  have kw : ∀ {v : Value} {n : Nat} {xs : List Value}, X.ownsRow w1.heap.size 9 1 v n xs → w8.ownsRow w1.heap.size 9 1 v n xs := fun {v n xs} ho => by
    refine ho.kept hg ?_
    cases hv : v.ownBlock with
    | none => exact .inl rfl
    | some q =>
      refine .inr (fun e => ?_)
      obtain ⟨_, cs1, g1⟩ := own_cells ho hv
      obtain ⟨_, cs2, g2⟩ := own_cells hXu e.symm
      rw [g1] at g2; cases g2
  have hN8 : NmOwn w1.heap.size w8 v8 (ps ++ [(nm, nv)]) := ⟨ho, fun q hq => by
    rcases List.mem_append.1 hq with hq | hq
    · exact ⟨kw (ownsRow_below (h3.2 q hq).1 hX), (h3.2 q hq).2⟩
    · simp only [List.mem_singleton] at hq
      subst hq
      exact ⟨kw hn, hs⟩⟩
  refine ⟨by rw [List.map_append, h1]; rfl, by simp [World.setCell, Array.getElem?_modify, hp8], hN8.set 3 _ hp8, ?_, h5⟩
  have h6 : Below w1.heap.size w1 X := Below.step h4 hX
  have h8 : Below w1.heap.size w1 w8 := h6.grown hg h6.size (fun r e => (own_cells hXu e).1)
  exact h8.setCell (p := ⟨p, 3, none⟩) h5 _

/-- an append to the names leaves the change where it is -/
theorem PaW.far {w1 X w8 : World} {p : Nat} {c : Li.Ch} {u : Value} {ps : List (Li.Nm × Value)} (h : PaW w1 X p c u ps) (o : Obj) (hg : (X.alloc o).grownBy w8 u.ownBlock) :
    w8.heap[p]? = some (.cells #[.int .i64 c.kind, .string (bs c.id), .string (bs c.en.id), u, .int .i64 c.at_] 27 (0, 0)) := by
  have hz := (Array.getElem?_eq_some_iff.1 h.2.1).1
  refine (hg.block p (by rw [World.size_alloc]; omega) (fun e => ?_)).trans ((Below.heap_alloc X o p hz).trans h.2.1)
  obtain ⟨_, cs, h3⟩ := own_cells h.2.2.1.1 e.symm
  rw [h.2.1] at h3
  cases h3

set_option maxRecDepth 100000 in
set_option maxHeartbeats 8000000 in
theorem rparse_any (s : List UInt8) (w : World) (hs : s.length ≤ 5000) : Calls Tryz.prog 21 #[.string (bs s)] w (ParseP s w) := by
  obtain ⟨W1, hW1⟩ : ∃ W1, W1 = w.alloc (.cells #[.int .i64 0, .string ⟨#[]⟩, .string ⟨#[]⟩, .slice none 0 0, .int .i64 0] 27) := ⟨_, rfl⟩
  have HX := hid (ChBox.new (id := []) (eid := []) hW1)
  have HB1 := hid HX.out.below
  have hd1 : W1.heap[w.heap.size]? = some (.cells #[.int .i64 0, .string ⟨#[]⟩, .string ⟨#[]⟩, .slice none 0 0, .int .i64 0] 27 (0, 0)) := by rw [hW1]; exact alloc_new w _
  have HL := hid (rlex_any (bs s) W1 (by rw [bs_len]; unfold maxLen; omega))
  rw [bs_list] at HL
  go_enter Tryz.func21, Tryz.ntmps21
  go_upto_region 1 with (fail)
  rw [← hW1]
  clear hW1
  go_wp2_with fail
  refine (HL.out).mono ?_
  rintro e w1 ⟨v, rfl, ho, hb⟩
  have HT := TokSl.of_owns ho
  have HB := hid (Below.step HB1.out hb)
  have HD1 := hid ((hb.block _ (Array.getElem?_eq_some_iff.1 hd1).1).trans hd1)
  have HLT := fun l x y h => Fa.lex_toks (s := s) hs (l := l) (x := x) (y := y) h
  clear ho hb HL hd1
  obtain ⟨r, hr⟩ : ∃ r, r = Lx.lex s := ⟨_, rfl⟩
  rw [← hr] at HT ⊢
  obtain ⟨l, x, y⟩ := r
  have HLX := hid hr.symm
  obtain ⟨htok, -⟩ := HLT l x y hr.symm
  have HTK := hid htok
  clear hr HLT htok
  simp only at HT ⊢
  obtain ⟨⟨c0, c1, c2, c3, c4⟩, ⟨f0, f1, f2, f3, f4⟩, z1⟩ := ch_cells HD1.out
  by_cases hx : x = 0
  · have hxb : (x != 0) = false := by rw [hx]; rfl
    obtain ⟨cap, k1, k2, HT⟩ := HT
    by_cases hl3 : l.length < 3
    · have HE := hid (show Li.parse s = none by rw [← Li.rparse_eq]; exact Li.rparse_short HLX.out (.inr hl3))
      obtain ⟨a, hv⟩ : ∃ a, v = .slice a l.length cap := by
        rcases HT with ⟨h, rfl⟩ | ⟨g, o, rfl, _⟩
        · exact ⟨none, by rw [h]; rfl⟩
        · exact ⟨_, rfl⟩
      subst hv
      have hl4 : (l.length : Int) < 3 := by omega
      clear HT hx hl3
      go_wp2_with fail
      refine post_cell_tmp rfl rfl (ch_load (ch_stored (.int .i64 0) (.string ⟨#[]⟩) (.string ⟨#[]⟩) (.slice none 0 0) (.int .i64 0) HD1.out).1) rfl rfl ?_
      refine ⟨ch_below _ _ _ _ _ HB.out (Nat.le_refl _), ?_⟩
      rw [HE.out]
      rfl
    · obtain ⟨p0, p1, p2, r, rfl⟩ : ∃ p0 p1 p2 r, l = p0 :: p1 :: p2 :: r := by
        rcases l with _ | ⟨p0, _ | ⟨p1, _ | ⟨p2, r⟩⟩⟩
        · exact absurd (show ([] : List (Nat × Lx.Tk)).length < 3 by simp) hl3
        · exact absurd (show [p0].length < 3 by simp) hl3
        · exact absurd (show [p0, p1].length < 3 by simp) hl3
        · exact ⟨_, _, _, _, rfl⟩
      have HRP := hid (fun cb rb hb => Li.rparse_long HLX.out hx hl3 (cb := cb) (rb := rb) hb)
      obtain ⟨L, hL⟩ : ∃ L, L = p0 :: p1 :: p2 :: r := ⟨_, rfl⟩
      obtain ⟨g, o, rfl, hr⟩ : ∃ g o, v = .slice (some ⟨g, o, none⟩) L.length cap ∧ TokRow w1 g o L := by
        rw [hL]
        rcases HT with ⟨h, _⟩ | h
        · cases h
        · exact h
      have HR := hid hr
      have t0 := (hr.2 0 p0 (by rw [hL]; rfl)).c3
      have t1 := (hr.2 1 p1 (by rw [hL]; rfl)).c3
      have t2 := (hr.2 2 p2 (by rw [hL]; rfl)).c2
      rw [Nat.zero_mul, Nat.add_zero] at t0
      rw [Nat.one_mul] at t1
      have hg := hr.1
      obtain ⟨n, hn⟩ : ∃ n, n = L.length := ⟨_, rfl⟩
      rw [← hL, ← hn] at k1 hl3
      rw [← hn]
      rw [← hL] at HTK HRP
      have HN := hid hn
      have HXX := hid hx
      have HLL := hid hL
      have hn5 : n ≤ 5001 := by
        have := Li.lex_len HLX.out
        rw [← hL, ← hn] at this
        omega
      have hl4 : ¬ (n : Int) < 3 := by omega
      have hi0 : (0 : Int) < (n : Int) := by omega
      have hi1 : (1 : Int) < (n : Int) := by omega
      have hi2 : (2 : Int) < (n : Int) := by omega
      have HT0 := hid (And.intro t0 (And.intro t2 hg))
      clear hx hl3 HT hr hn hL
      go_upto_region 4 with (fail)
      go_cut [7] from 28 to 32 (fun v7 wx => ∃ p, v7 = .pointer (some ⟨p, 0, none⟩) ∧ Hid (PaW w1 wx p ⟨0, p1.2.text, ⟨[], []⟩, 0⟩ (.slice none 0 0) []))
      case first =>
        go_wp2_with fail
        go_meet
        case rel => exact ⟨_, rfl, rfl, alloc_new w1 _, ⟨World.ownsRow_nil _ _ _ _, fun q hq => by cases hq⟩, (Below.refl _ w1).alloc (Nat.le_refl _) _, Nat.le_refl _⟩
      case rest =>
      obtain ⟨p, rfl, HP⟩ := hcut
      rename World => wx0
      clear t0 t1 t2
      have hbw := HP.out.2.2.2.1
      have t0 := (hbw.cell (p := ⟨g, o + 3, none⟩) HT0.out.2.2).trans HT0.out.1
      have hg1 := Nat.lt_of_lt_of_le HT0.out.2.2 hbw.size
      obtain ⟨⟨d0, d1, d2, d3, d4⟩, ⟨q0, q1, q2, q3, q4⟩, zp⟩ := ch_cells HP.out.2.1
      have hnb := name_beq p0.2.text Li.wAdd
      rw [show (bs Li.wAdd).toList = [97, 100, 100] by rw [ByteArray.toList_eq]; rfl] at hnb
      obtain ⟨kb, hkb⟩ : ∃ kb, kb = decide (p0.2.text = Li.wAdd) := ⟨_, rfl⟩
      rw [← hkb] at hnb
      have HKB := hid hkb
      clear hkb hbw
      go_upto_if 37 with (fail)
      go_cut [] from 37 to 38 (fun wx => Hid (PaW w1 wx p ⟨Li.kd1 p0.2.text, p1.2.text, ⟨[], []⟩, 0⟩ (.slice none 0 0) []))
      case first =>
        cases kb with
        | true =>
          have HE := hid (show Li.kd1 p0.2.text = 1 by unfold Li.kd1; rw [if_pos (of_decide_eq_true HKB.out.symm)])
          go_wp2_with fail
          go_meet
          case rel => rw [HE.out]; exact HP.out.kind_ 1
        | false =>
          have HE := hid (show Li.kd1 p0.2.text = 0 by unfold Li.kd1; rw [if_neg (of_decide_eq_false HKB.out.symm)])
          go_wp2_with fail
          go_meet
          case rel => rw [HE.out]; exact HP.out
      case rest =>
      clear d0 d1 d2 d3 d4 q0 q1 q2 q3 q4 zp t0 HP hg1 hnb HKB
      have HP := hid (show PaW w1 _ p ⟨Li.kd1 p0.2.text, p1.2.text, ⟨[], []⟩, 0⟩ (.slice none 0 0) [] from hcut.out)
      clear hcut
      rename World => wx1
      have hbw := HP.out.2.2.2.1
      have t0 := (hbw.cell (p := ⟨g, o + 3, none⟩) HT0.out.2.2).trans HT0.out.1
      have hg2 := Nat.lt_of_lt_of_le HT0.out.2.2 hbw.size
      obtain ⟨⟨d0, d1, d2, d3, d4⟩, ⟨q0, q1, q2, q3, q4⟩, zp⟩ := ch_cells HP.out.2.1
      have hnb := name_beq p0.2.text Li.wRemove
      rw [show (bs Li.wRemove).toList = [114, 101, 109, 111, 118, 101] by rw [ByteArray.toList_eq]; rfl] at hnb
      obtain ⟨kb, hkb⟩ : ∃ kb, kb = decide (p0.2.text = Li.wRemove) := ⟨_, rfl⟩
      rw [← hkb] at hnb
      have HKB := hid hkb
      clear hkb hbw
      go_upto_if 43 with (fail)
      go_cut [] from 43 to 44 (fun wx => Hid (PaW w1 wx p ⟨Li.kd2 p0.2.text, p1.2.text, ⟨[], []⟩, 0⟩ (.slice none 0 0) []))
      case first =>
        cases kb with
        | true =>
          have HE := hid (show Li.kd2 p0.2.text = 2 by unfold Li.kd2; rw [if_pos (of_decide_eq_true HKB.out.symm)])
          go_wp2_with fail
          go_meet
          case rel => rw [HE.out]; exact HP.out.kind_ 2
        | false =>
          have HE := hid (show Li.kd2 p0.2.text = Li.kd1 p0.2.text by unfold Li.kd2; rw [if_neg (of_decide_eq_false HKB.out.symm)])
          go_wp2_with fail
          go_meet
          case rel => rw [HE.out]; exact HP.out
      case rest =>
      clear d0 d1 d2 d3 d4 q0 q1 q2 q3 q4 zp t0 HP hg2 hnb HKB
      have HP := hid (show PaW w1 _ p ⟨Li.kd2 p0.2.text, p1.2.text, ⟨[], []⟩, 0⟩ (.slice none 0 0) [] from hcut.out)
      clear hcut
      rename World => wx2
      have hbw := HP.out.2.2.2.1
      have t0 := (hbw.cell (p := ⟨g, o + 3, none⟩) HT0.out.2.2).trans HT0.out.1
      have hg3 := Nat.lt_of_lt_of_le HT0.out.2.2 hbw.size
      obtain ⟨⟨d0, d1, d2, d3, d4⟩, ⟨q0, q1, q2, q3, q4⟩, zp⟩ := ch_cells HP.out.2.1
      have hnb := name_beq p0.2.text Li.wCorrect
      rw [show (bs Li.wCorrect).toList = [99, 111, 114, 114, 101, 99, 116] by rw [ByteArray.toList_eq]; rfl] at hnb
      obtain ⟨kb, hkb⟩ : ∃ kb, kb = decide (p0.2.text = Li.wCorrect) := ⟨_, rfl⟩
      rw [← hkb] at hnb
      have HKB := hid hkb
      clear hkb hbw
      go_upto_if 49 with (fail)
      go_cut [] from 49 to 50 (fun wx => Hid (PaW w1 wx p ⟨Li.kd3 p0.2.text, p1.2.text, ⟨[], []⟩, 0⟩ (.slice none 0 0) []))
      case first =>
        cases kb with
        | true =>
          have HE := hid (show Li.kd3 p0.2.text = 3 by unfold Li.kd3; rw [if_pos (of_decide_eq_true HKB.out.symm)])
          go_wp2_with fail
          go_meet
          case rel => rw [HE.out]; exact HP.out.kind_ 3
        | false =>
          have HE := hid (show Li.kd3 p0.2.text = Li.kd2 p0.2.text by unfold Li.kd3; rw [if_neg (of_decide_eq_false HKB.out.symm)])
          go_wp2_with fail
          go_meet
          case rel => rw [HE.out]; exact HP.out
      case rest =>
      clear d0 d1 d2 d3 d4 q0 q1 q2 q3 q4 zp t0 HP hg3 hnb HKB
      have HP := hid (show PaW w1 _ p ⟨Li.kd3 p0.2.text, p1.2.text, ⟨[], []⟩, 0⟩ (.slice none 0 0) [] from hcut.out)
      clear hcut
      rename World => wx3
      have hbw := HP.out.2.2.2.1
      have t0 := (hbw.cell (p := ⟨g, o + 3, none⟩) HT0.out.2.2).trans HT0.out.1
      have hg4 := Nat.lt_of_lt_of_le HT0.out.2.2 hbw.size
      obtain ⟨⟨d0, d1, d2, d3, d4⟩, ⟨q0, q1, q2, q3, q4⟩, zp⟩ := ch_cells HP.out.2.1
      have hnb := name_beq p0.2.text Li.wVoid
      rw [show (bs Li.wVoid).toList = [118, 111, 105, 100] by rw [ByteArray.toList_eq]; rfl] at hnb
      obtain ⟨kb, hkb⟩ : ∃ kb, kb = decide (p0.2.text = Li.wVoid) := ⟨_, rfl⟩
      rw [← hkb] at hnb
      have HKB := hid hkb
      clear hkb hbw
      go_upto_if 55 with (fail)
      go_cut [] from 55 to 56 (fun wx => Hid (PaW w1 wx p ⟨Li.kd4 p0.2.text, p1.2.text, ⟨[], []⟩, 0⟩ (.slice none 0 0) []))
      case first =>
        cases kb with
        | true =>
          have HE := hid (show Li.kd4 p0.2.text = 4 by unfold Li.kd4; rw [if_pos (of_decide_eq_true HKB.out.symm)])
          go_wp2_with fail
          go_meet
          case rel => rw [HE.out]; exact HP.out.kind_ 4
        | false =>
          have HE := hid (show Li.kd4 p0.2.text = Li.kd3 p0.2.text by unfold Li.kd4; rw [if_neg (of_decide_eq_false HKB.out.symm)])
          go_wp2_with fail
          go_meet
          case rel => rw [HE.out]; exact HP.out
      case rest =>
      clear d0 d1 d2 d3 d4 q0 q1 q2 q3 q4 zp t0 HP hg4 hnb HKB
      have HP := hid (show PaW w1 _ p ⟨Li.kd4 p0.2.text, p1.2.text, ⟨[], []⟩, 0⟩ (.slice none 0 0) [] from hcut.out)
      clear hcut
      rename World => wx4
      rw [Li.kd4_kind] at HP
      obtain ⟨kd, hkd⟩ : ∃ kd, kd = Li.kindOf p0.2.text := ⟨_, rfl⟩
      rw [← hkd] at HP
      have HKD := hid hkd
      clear hkd
      have hbw := HP.out.2.2.2.1
      have t2 := (hbw.cell (p := ⟨g, o + 2 * 4 + 2, none⟩) HT0.out.2.2).trans HT0.out.2.1
      have hg5 := Nat.lt_of_lt_of_le HT0.out.2.2 hbw.size
      obtain ⟨⟨d0, d1, d2, d3, d4⟩, ⟨q0, q1, q2, q3, q4⟩, zp⟩ := ch_cells HP.out.2.1
      clear hbw
      obtain ⟨db, hdb⟩ : ∃ db, db = decide (kd = 1 ∨ kd = 2) := ⟨_, rfl⟩
      have HDB := hid hdb
      clear hdb
      go_upto_region 14 with (fail)
      go_cut [64] from 57 to 64 (fun v64 wy => v64 = .bool db ∧ wy = wx4)
      case first =>
        by_cases hk1 : kd = 1
        · have b1 : (kd == 1) = true := by rw [hk1]; rfl
          have HE := hid (show db = true by rw [HDB.out]; exact decide_eq_true (.inl hk1))
          clear hk1
          go_wp2_with fail
          go_meet
          case rel => exact ⟨by rw [HE.out], rfl⟩
        · have b1 : (kd == 1) = false := by rw [beq_eq_false_iff_ne]; exact hk1
          by_cases hk2 : kd = 2
          · have b2 : (kd == 2) = true := by rw [hk2]; rfl
            have HE := hid (show db = true by rw [HDB.out]; exact decide_eq_true (.inr hk2))
            clear hk1 hk2
            go_wp2_with fail
            go_meet
            case rel => exact ⟨by rw [HE.out], rfl⟩
          · have b2 : (kd == 2) = false := by rw [beq_eq_false_iff_ne]; exact hk2
            have HE := hid (show db = false by rw [HDB.out]; exact decide_eq_false (by rintro (h | h); exact hk1 h; exact hk2 h))
            clear hk1 hk2
            go_wp2_with fail
            go_meet
            case rel => exact ⟨by rw [HE.out], rfl⟩
      case rest =>
      obtain ⟨rfl, hwy⟩ := hcut
      rw [hwy]
      clear hwy
      go_upto_if 64 with (fail)
      go_cut [8] from 64 to 69 (fun v8 wy => ∃ (i : Nat) (cb : Li.Ch), v8 = .int .i64 i ∧ i ≤ 3 ∧ Hid (PaW w1 wy p cb (.slice none 0 0) [] ∧ Li.rbegin (Lx.toks L) = (cb, (Lx.toks L).drop i) ∧ cb.id = p1.2.text ∧ cb.en.id = []))
      case first =>
        cases db with
        | true =>
          have HE := hid (show Li.rbegin (Lx.toks L) = (⟨kd, p1.2.text, ⟨[], []⟩, p2.2.n⟩, (Lx.toks L).drop 3) by
            have h := of_decide_eq_true HDB.out.symm
            rw [HKD.out] at h ⊢
            rw [HLL.out]
            exact Li.rbegin_dated h)
          go_wp2_with fail
          go_meet
          case rel => exact ⟨3, _, rfl, by omega, HP.out.at_ p2.2.n, HE.out, rfl, rfl⟩
        | false =>
          have HE := hid (show Li.rbegin (Lx.toks L) = (⟨kd, p1.2.text, ⟨[], []⟩, 0⟩, (Lx.toks L).drop 2) by
            have h := of_decide_eq_false HDB.out.symm
            rw [HKD.out] at h ⊢
            rw [HLL.out]
            exact Li.rbegin_plain h)
          go_wp2_with fail
          go_meet
          case rel => exact ⟨2, _, rfl, by omega, HP.out, HE.out, rfl, rfl⟩
      case rest =>
      clear d0 d1 d2 d3 d4 q0 q1 q2 q3 q4 zp t2 HP hg5
      obtain ⟨i0', cb, rfl, hi03, HC⟩ := hcut
      rename World => wy
      have HRS := hid (HRP.out cb _ HC.out.2.1)
      have HC0 := hid HC.out.1
      have HCI := hid HC.out.2.2
      clear HC HRP
      go_wp2_with fail
      go_loopw [8] (fun iv wr => ∃ (i : Nat) (c : Li.Ch) (u : Value) (ps : List (Li.Nm × Value)), i ≤ n ∧ iv = .int .i64 i ∧ ps.length ≤ i ∧ Hid (Li.rnames cb ((Lx.toks L).drop i0') = Li.rnames c ((Lx.toks L).drop i)) ∧ Hid (PaW w1 wr p c u ps) ∧ Hid (c.id = p1.2.text ∧ (c.en.id = [] ∨ c.en.id = p1.2.text))) (fun iv _ => n - (RowKit.intOf iv).toNat)
      case atStart => exact ⟨i0', cb, _, [], by omega, rfl, Nat.zero_le _, rfl, HC0.out, HCI.out.1, .inl HCI.out.2⟩
      case round =>
        clear HC0 HCI
        obtain ⟨i, c, u, ps, hin, rfl, hpi, HRN, HPW, HID⟩ := hrel
        obtain ⟨-, hp5, ⟨hu5, -⟩, hbw, hpl⟩ := HPW.out
        obtain ⟨ua, uc, rfl⟩ := ownsRow_slice hu5
        have HBW := hid hbw
        have HD5 := hid ((hbw.block _ (Array.getElem?_eq_some_iff.1 HD1.out).1).trans HD1.out)
        have HB5 := hid (Below.step HB.out hbw)
        clear hu5 hpl
        by_cases hgo : ∃ q, L[i]? = some q ∧ q.2.kind = 3
        · obtain ⟨q, hq, hq3⟩ := hgo
          have hlt : i < n := by
            have := (List.getElem?_eq_some_iff.1 hq).1
            rw [HN.out]; exact this
          have htq : (Lx.toks L)[i]? = some q.2 := by unfold Lx.toks; rw [List.getElem?_map, hq]; rfl
          have htk := HTK.out q (List.mem_of_getElem? hq)
          obtain ⟨e0, e1, e2, e3⟩ := (HR.out.below hbw).2 i q hq
          have hgr := (HR.out.below hbw).1
          have hk0 : (0 : Int) ≤ (i : Int) := by omega
          have hk1 : (i : Int) < (n : Int) := by omega
          have hql := tk_len htk
          have HQ := hid (And.intro htq (And.intro htk hq3))
          obtain ⟨of_, ⟨kq, nq, tq⟩⟩ := q
          simp only at e0 e1 e2 e3 HQ hql hq3
          have k3 : ((kq : Int) == 3) = true := by rw [beq_iff_eq]; omega
          have HDR := hid (drop_cons HQ.out.1)
          have HSP := hid (rnp_any tq wr (by omega))
          clear htq htk hq hbw hp5 hq3
          go_wp2_with fail
          refine (HSP.out).mono ?_
          rintro e w6 ⟨hb6, hm⟩
          have HP6 := hid (HPW.out.step hb6)
          have HB6 := hid (Below.step HBW.out hb6)
          have HBW6 := hid (Below.step HB5.out hb6)
          have HD6 := hid ((hb6.block _ (Array.getElem?_eq_some_iff.1 HD5.out).1).trans HD5.out)
          clear hb6 e0 e1 e2 e3 HSP
          cases hn6 : Li.rnameP tq with
          | none =>
            rw [hn6] at hm
            obtain ⟨er, off, her, rfl⟩ := hm
            have erb : (er != 0) = true := by rw [bne_iff_ne]; exact her
            have HE := hid (show Li.parse s = none by
              rw [← Li.rparse_eq, HRS.out, HRN.out, HDR.out, Li.rnames_none HQ.out.2.2 hn6])
            clear her hn6
            obtain ⟨⟨d0, d1, d2, d3, d4⟩, ⟨g0, g1, g2, g3, g4⟩, zp⟩ := ch_cells HD6.out
            obtain ⟨X7, hX7⟩ : ∃ X7, X7 = w6.alloc (.cells #[.int .i64 0, .slice none 0 0] 73) := ⟨_, rfl⟩
            obtain ⟨-, -, zq, hb7⟩ := name_box hX7
            have HD7 := hid ((hb7.block _ (Array.getElem?_eq_some_iff.1 HD6.out).1).trans HD6.out)
            have HB7 := hid (Below.step HBW6.out hb7)
            clear d0 d1 d2 d3 d4 g0 g1 g2 g3 g4 zp
            obtain ⟨⟨d0, d1, d2, d3, d4⟩, ⟨g0, g1, g2, g3, g4⟩, zp⟩ := ch_cells HD7.out
            go_upto_region 19 with (fail)
            rw [← hX7]
            clear hX7 hb7
            go_wp2_with fail
            refine post_cell_tmp rfl rfl (ch_load (ch_stored (.int .i64 0) (.string ⟨#[]⟩) (.string ⟨#[]⟩) (.slice none 0 0) (.int .i64 0) HD7.out).1) rfl rfl ?_
            refine ⟨ch_below _ _ _ _ _ HB7.out (Nat.le_refl _), ?_⟩
            rw [HE.out]
            rfl
          | some m =>
            rw [hn6] at hm
            obtain ⟨nu, off, rfl, hom⟩ := hm
            obtain ⟨sa, sc, rfl⟩ := ownsRow_slice hom
            have hsm : shortN m := Li.rnameP_short hn6 (by omega)
            have HOM := hid (And.intro (ownsRow_base hom HPW.out.2.2.2.1.size) hsm)
            have HTN := hid (show Li.rnames cb ((Lx.toks L).drop i0') = Li.rnames { c with en := ⟨c.id, c.en.names ++ [m]⟩ } ((Lx.toks L).drop (i + 1)) by
              rw [HRN.out, HDR.out, Li.rnames_some HQ.out.2.2 hn6])
            clear hn6 hom hsm
            obtain ⟨i0, hi0', hz0, hz1, hz2⟩ := info_parts Tryz.infoName
            obtain ⟨X7, hX7⟩ : ∃ X7, X7 = w6.alloc (.cells #[.int .i64 m.script, .slice sa m.words.length sc] 73) := ⟨_, rfl⟩
            obtain ⟨q0, q1, zq, hb7⟩ := name_box hX7
            have HP7 := hid (HP6.out.step hb7)
            have HB7 := hid (Below.step HB6.out hb7)
            have HOM7 := hid (ownsRow_below HOM.out.1 hb7)
            obtain ⟨⟨d0, d1, d2, d3, d4⟩, ⟨g0, g1, g2, g3, g4⟩, zp⟩ := ch_cells HP7.out.2.1
            have hps : ps.length ≤ 5001 := by omega
            clear hb7
            go_upto_region 19 with (fail)
            rw [← hX7]
            clear hX7
            go_upto_region 22 with (fail)
            obtain ⟨X8, hX8⟩ : ∃ X8, X8 = X7.setCell ⟨p, 2, none⟩ (.string (bs c.id)) := ⟨_, rfl⟩
            rw [← hX8]
            have HP8 := hid (show PaW w1 X8 p { c with en := ⟨c.id, c.en.names⟩ } (.slice ua ps.length uc) ps by rw [hX8]; exact HP7.out.eid_ c.id)
            have hpw : p ≠ w6.heap.size := by
              have := (Array.getElem?_eq_some_iff.1 HP6.out.2.1).1
              omega
            have HQ8 := hid (show X8.cell? ⟨w6.heap.size, 0, none⟩ = some (.int .i64 m.script) ∧ X8.cell? ⟨w6.heap.size, 1, none⟩ = some (.slice sa m.words.length sc) ∧ w6.heap.size < X8.heap.size by
              have hh : X8.heap[w6.heap.size]? = X7.heap[w6.heap.size]? := by rw [hX8]; exact Below.heap_setCell _ ⟨p, 2, none⟩ _ _ (fun e => hpw e.symm)
              exact ⟨(World.cell?_of_block (a := ⟨w6.heap.size, 0, none⟩) hh).trans q0, (World.cell?_of_block (a := ⟨w6.heap.size, 1, none⟩) hh).trans q1, by rw [hX8]; simpa [World.setCell] using zq⟩)
            have HOM8 := hid (show X8.ownsRow w1.heap.size 9 1 (.slice sa m.words.length sc) m.words.length (m.words.flatMap strC) by rw [hX8]; exact own_set 2 _ HOM7.out HP7.out.2.1 (by decide))
            have HS8 := hid (show X8.heap.size = X7.heap.size by rw [hX8]; simp [World.setCell])
            clear hX8 d0 d1 d2 d3 d4 g0 g1 g2 g3 g4 zp q0 q1 zq
            obtain ⟨⟨d0, d1, d2, d3, d4⟩, ⟨g0, g1, g2, g3, g4⟩, zp⟩ := ch_cells HP8.out.2.1
            obtain ⟨q0, q1, zq⟩ := HQ8.out
            have hown := HP8.out.2.2.1.1.alloc (.cells #[.int .i64 m.script, .slice sa m.words.length sc] 73)
            have HFAR := hid (fun (w8 : World) hg => PaW.far HP8.out (w8 := w8) (.cells #[.int .i64 m.script, .slice sa m.words.length sc] 73) hg)
            have hbase : w1.heap.size ≤ (X8.alloc (.cells #[.int .i64 m.script, .slice sa m.words.length sc] 73)).heap.size := by have := HB7.out.size; have := HS8.out; rw [World.size_alloc]; omega
            go_wp2_with (at_builtin; refine wpList_append_own _ rfl _ _ 23 rfl w1.heap.size 73 i0 (.agg #[.int .i64 0, .slice none 0 0]) 2 32 Tryz.underlying23 hi0' hz0 hz1 hz2 rfl (by decide) _ _ _ rfl hown ⟨X8.heap.size, 0, none⟩ 1 1 [.int .i64 m.script, .slice sa m.words.length sc] rfl rfl (cells_new rfl) (by simp [Value.oneCell']) (by unfold maxLen; omega) (by omega) hbase ?_; intro v' w8 ho8 hg8 _; obtain ⟨v8, c8, rfl⟩ := ownsRow_slice ho8; have hp8 := HFAR.out w8 hg8; obtain ⟨⟨e0, e1, e2, e3, e4⟩, ⟨l0, l1, l2, l3, l4⟩, zp8⟩ := ch_cells hp8)
            have HPA := hid (HP8.out.more (nm := m) (nv := .slice sa m.words.length sc) ((Below.refl _ X8).alloc (Nat.le_refl _) (.cells #[.int .i64 m.script, .slice sa m.words.length sc] 73)) hg8 (by rw [List.length_append, List.flatMap_append]; exact ho8) (HOM8.out.alloc (.cells #[.int .i64 m.script, .slice sa m.words.length sc] 73)) HOM.out.2)
            go_roundw
            case rel => exact ⟨i + 1, { c with en := ⟨c.id, c.en.names ++ [m]⟩ }, _, _, by omega, by go_num, by simp; omega, HTN.out, HPA.out, HID.out.1, .inr HID.out.1⟩
            case measure => simp [RowKit.intOf]; omega
        · have HTA := hid (show Li.rnames cb ((Lx.toks L).drop i0') = some c by
            rw [HRN.out]
            refine Li.rnames_stop fun t r' e hk => hgo ?_
            have h1 : (Lx.toks L)[i]? = some t := by
              have := congrArg List.head? e
              rwa [List.head?_drop] at this
            unfold Lx.toks at h1
            rw [List.getElem?_map] at h1
            cases h2 : L[i]? with
            | none => rw [h2] at h1; cases h1
            | some q => rw [h2] at h1; cases h1; exact ⟨q, rfl, hk⟩)
          have hidl : c.id.length ≤ 400 := by rw [HID.out.1]; exact tk_len (HTK.out p1 (by rw [HLL.out]; simp))
          have heil : c.en.id.length ≤ 400 := by
            rcases HID.out.2 with h | h
            · rw [h]; simp
            · rw [h, ← HID.out.1]; exact hidl
          have HTX := hid (rtextC_any c (.slice ua ps.length uc) wr (by rw [← HPW.out.1]; exact HPW.out.2.2.1.nms) (by omega) (by omega))
          have HPE := hid (show Li.parse s = if Li.text c = some s then some c else none by rw [← Li.rparse_eq, HRS.out, HTA.out])
          obtain ⟨⟨d0, d1, d2, d3, d4⟩, ⟨g0, g1, g2, g3, g4⟩, zp⟩ := ch_cells hp5
          clear hidl heil hp5
          by_cases hlt : i < n
          · have hk0 : (0 : Int) ≤ (i : Int) := by omega
            have hk1 : (i : Int) < (n : Int) := by omega
            obtain ⟨q, hq⟩ : ∃ q, L[i]? = some q := ⟨_, List.getElem?_eq_getElem (by rw [← HN.out]; exact hlt)⟩
            have hq3 : ¬ q.2.kind = 3 := fun h => hgo ⟨q, hq, h⟩
            obtain ⟨e0, -, -, -⟩ := (HR.out.below hbw).2 i q hq
            have hgr := (HR.out.below hbw).1
            have k3 : ((q.2.kind : Int) == 3) = false := by rw [beq_eq_false_iff_ne]; omega
            clear hgo hq hq3 hbw
            go_wp2_with fail
            refine (HTX.out).mono ?_
            rintro e w9 ⟨rfl, hb9⟩
            have HP10 := hid (HPW.out.step hb9)
            have HD9 := hid ((hb9.block _ (Array.getElem?_eq_some_iff.1 HD5.out).1).trans HD5.out)
            have HB9 := hid (Below.step HB5.out hb9)
            clear hb9 d0 d1 d2 d3 d4 g0 g1 g2 g3 g4 zp
            obtain ⟨⟨d0, d1, d2, d3, d4⟩, ⟨g0, g1, g2, g3, g4⟩, zD⟩ := ch_cells HD9.out
            obtain ⟨⟨m0, m1, m2, m3, m4⟩, -, zp⟩ := ch_cells HP10.out.2.1
            cases hfc : Li.formed c with
            | false =>
              have HE := hid (show Li.parse s = none by
                rw [HPE.out, if_neg]
                unfold Li.text
                rw [hfc]
                simp)
              rw [if_neg (by decide)]
              clear hfc
              go_wp2_with fail
              refine post_cell_tmp rfl rfl (ch_load (ch_stored (.int .i64 0) (.string ⟨#[]⟩) (.string ⟨#[]⟩) (.slice none 0 0) (.int .i64 0) HD9.out).1) rfl rfl ?_
              refine ⟨ch_below _ _ _ _ _ HB9.out (Nat.le_refl _), ?_⟩
              rw [HE.out]
              rfl
            | true =>
              have htx : Li.text c = some (Li.body c) := by unfold Li.text; rw [if_pos hfc]
              rw [htx] at HPE ⊢
              simp only [Option.getD_some, if_true]
              have hnb := name_beq (Li.body c) s
              clear hfc htx
              by_cases hbs : Li.body c = s
              · rw [decide_eq_true hbs] at hnb
                have HE := hid (show Li.parse s = some c by rw [HPE.out, if_pos (by rw [hbs])])
                clear hbs
                go_wp2_with fail
                have hst := ch_stored (.int .i64 c.kind) (.string (bs c.id)) (.string (bs c.en.id)) (.slice ua ps.length uc) (.int .i64 c.at_) HD9.out
                refine post_cell_tmp rfl rfl (ch_load hst.1) rfl rfl ?_
                refine ⟨ch_below _ _ _ _ _ HB9.out (Nat.le_refl _), ?_⟩
                rw [HE.out]
                obtain ⟨h1, -, h3, -, -⟩ := HP10.out
                have hle := HB.out.size
                have far : ∀ g o, w1.heap.size ≤ g → w9.heap[g]? = some o → o.isCells = true → _ := fun g o hg ho _ => (hst.2 g (by
                  have := (Array.getElem?_eq_some_iff.1 HD1.out).1
                  show g ≠ w.heap.size
                  omega)).trans ho
                exact ⟨_, ps, rfl, h1, ownsRow_base (ownsRow_far h3.1 far) hle, fun q hq => ⟨ownsRow_base (ownsRow_far (h3.2 q hq).1 far) hle, (h3.2 q hq).2⟩⟩
              · rw [decide_eq_false hbs] at hnb
                have HE := hid (show Li.parse s = none by rw [HPE.out, if_neg (fun e => hbs (Option.some.inj e))])
                clear hbs
                go_wp2_with fail
                refine post_cell_tmp rfl rfl (ch_load (ch_stored (.int .i64 0) (.string ⟨#[]⟩) (.string ⟨#[]⟩) (.slice none 0 0) (.int .i64 0) HD9.out).1) rfl rfl ?_
                refine ⟨ch_below _ _ _ _ _ HB9.out (Nat.le_refl _), ?_⟩
                rw [HE.out]
                rfl
          · have hk1 : ¬ (i : Int) < (n : Int) := by omega
            clear hgo hbw
            go_wp2_with fail
            refine (HTX.out).mono ?_
            rintro e w9 ⟨rfl, hb9⟩
            have HP10 := hid (HPW.out.step hb9)
            have HD9 := hid ((hb9.block _ (Array.getElem?_eq_some_iff.1 HD5.out).1).trans HD5.out)
            have HB9 := hid (Below.step HB5.out hb9)
            clear hb9 d0 d1 d2 d3 d4 g0 g1 g2 g3 g4 zp
            obtain ⟨⟨d0, d1, d2, d3, d4⟩, ⟨g0, g1, g2, g3, g4⟩, zD⟩ := ch_cells HD9.out
            obtain ⟨⟨m0, m1, m2, m3, m4⟩, -, zp⟩ := ch_cells HP10.out.2.1
            cases hfc : Li.formed c with
            | false =>
              have HE := hid (show Li.parse s = none by
                rw [HPE.out, if_neg]
                unfold Li.text
                rw [hfc]
                simp)
              rw [if_neg (by decide)]
              clear hfc
              go_wp2_with fail
              refine post_cell_tmp rfl rfl (ch_load (ch_stored (.int .i64 0) (.string ⟨#[]⟩) (.string ⟨#[]⟩) (.slice none 0 0) (.int .i64 0) HD9.out).1) rfl rfl ?_
              refine ⟨ch_below _ _ _ _ _ HB9.out (Nat.le_refl _), ?_⟩
              rw [HE.out]
              rfl
            | true =>
              have htx : Li.text c = some (Li.body c) := by unfold Li.text; rw [if_pos hfc]
              rw [htx] at HPE ⊢
              simp only [Option.getD_some, if_true]
              have hnb := name_beq (Li.body c) s
              clear hfc htx
              by_cases hbs : Li.body c = s
              · rw [decide_eq_true hbs] at hnb
                have HE := hid (show Li.parse s = some c by rw [HPE.out, if_pos (by rw [hbs])])
                clear hbs
                go_wp2_with fail
                have hst := ch_stored (.int .i64 c.kind) (.string (bs c.id)) (.string (bs c.en.id)) (.slice ua ps.length uc) (.int .i64 c.at_) HD9.out
                refine post_cell_tmp rfl rfl (ch_load hst.1) rfl rfl ?_
                refine ⟨ch_below _ _ _ _ _ HB9.out (Nat.le_refl _), ?_⟩
                rw [HE.out]
                obtain ⟨h1, -, h3, -, -⟩ := HP10.out
                have hle := HB.out.size
                have far : ∀ g o, w1.heap.size ≤ g → w9.heap[g]? = some o → o.isCells = true → _ := fun g o hg ho _ => (hst.2 g (by
                  have := (Array.getElem?_eq_some_iff.1 HD1.out).1
                  show g ≠ w.heap.size
                  omega)).trans ho
                exact ⟨_, ps, rfl, h1, ownsRow_base (ownsRow_far h3.1 far) hle, fun q hq => ⟨ownsRow_base (ownsRow_far (h3.2 q hq).1 far) hle, (h3.2 q hq).2⟩⟩
              · rw [decide_eq_false hbs] at hnb
                have HE := hid (show Li.parse s = none by rw [HPE.out, if_neg (fun e => hbs (Option.some.inj e))])
                clear hbs
                go_wp2_with fail
                refine post_cell_tmp rfl rfl (ch_load (ch_stored (.int .i64 0) (.string ⟨#[]⟩) (.string ⟨#[]⟩) (.slice none 0 0) (.int .i64 0) HD9.out).1) rfl rfl ?_
                refine ⟨ch_below _ _ _ _ _ HB9.out (Nat.le_refl _), ?_⟩
                rw [HE.out]
                rfl
  · have hxb : (x != 0) = true := by rw [bne_iff_ne]; exact hx
    have HE := hid (show Li.parse s = none by rw [← Li.rparse_eq]; exact Li.rparse_short HLX.out (.inl hx))
    clear hx
    go_wp2_with fail
    refine post_cell_tmp rfl rfl (ch_load (ch_stored (.int .i64 0) (.string ⟨#[]⟩) (.string ⟨#[]⟩) (.slice none 0 0) (.int .i64 0) HD1.out).1) rfl rfl ?_
    refine ⟨ch_below _ _ _ _ _ HB.out (Nat.le_refl _), ?_⟩
    rw [HE.out]
    rfl

end Go.Proofs.YtidkmhokolknbaaGreatDoor
