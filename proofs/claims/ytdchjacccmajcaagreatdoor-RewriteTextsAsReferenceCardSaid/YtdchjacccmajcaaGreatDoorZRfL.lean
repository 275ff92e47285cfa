/-
 The reference lexer, the rest of it. Conditions: lengths within Go's own bound.
-/
import Derived.Test.YtdchjacccmajcaaGreatDoorZMLexA
namespace Go.Proofs.YtdchjacccmajcaaGreatDoor
open Go.RowKit

set_option maxHeartbeats 400000 in
theorem rhas_any (t : ByteArray) (c : UInt8) (w : World) (hs : t.size ≤ maxLen) :
  Calls Tryz.prog 132 #[.string t, .int .u8 c.toNat] w (Same (.bool (hasB t c)) w) := by
 unfold maxLen at hs
 go_enter Tryz.func132, Tryz.ntmps132
 go_wp2
 go_loop [5] (fun i => ∃ k : Nat, k ≤ t.size ∧ i = .int .i64 k ∧ Hid ((t.data.toList.take k).contains c = false)) (fun i => t.size - (intOf i).toNat)
 case atStart => exact ⟨0, Nat.zero_le _, rfl, by simp [Hid]⟩
 case round =>
  obtain ⟨k, hk, rfl, hn⟩ := hrel
  by_cases hlt : k < t.size
  ·have HT := hid (show t.data.toList.take (k + 1) = t.data.toList.take k ++ [t[k]] by
    rw [List.take_succ_eq_append_getElem (by simpa using hlt)]; rfl)
   have hmem : t[k] ∈ t.data.toList := by
    have : t[k] = t.data.toList[k]'(by simpa using hlt) := rfl
    rw [this]; exact List.getElem_mem _
   by_cases he : t[k] = c
   ·have h1 : ((t[k].toNat : Int) == (c.toNat : Int)) = true := u8_eq he
    have H2 : Hid (hasB t c = true) := by rw [he] at hmem; exact List.contains_iff_mem.2 hmem
    clear HT hmem he
    go_wp2
    go_ret
    exact ⟨ret_bool H2.out.symm, rfl⟩
   ·have h1 : ((t[k].toNat : Int) == (c.toNat : Int)) = false := u8_ne he
    have H2 : Hid ((t.data.toList.take (k + 1)).contains c = false) := by
     show _ = _
     rw [HT.out, List.contains_eq_any_beq, List.any_append, ← List.contains_eq_any_beq, hn.out]
     simp
     exact fun h => he h.symm
    clear HT hmem he hn
    go_wp2
    go_round
    case rel => exact ⟨k + 1, by omega, by go_num, H2⟩
    case measure => simp [intOf]; omega
  ·go_wp2
   go_ret
   exact ⟨ret_bool (by have := hn.out; rw [List.take_of_length_le (by simp; omega)] at this; exact this.symm), rfl⟩

theorem rgap_core (t : ByteArray) (E : Nat) (k : Nat) (w : World) (hs : t.size ≤ maxLen) (hk0 : k ≤ t.size) (HG : Hid (Lx.gapTo false t.data.toList k = E)) :
  Calls Tryz.prog 97 #[.string t, .int .i64 k] w (Same (.int .i64 E) w) := by
 unfold maxLen at hs
 go_enter Tryz.func97, Tryz.ntmps97
 go_wp2
 go_loop [1] (fun i => ∃ k : Nat, k ≤ t.size ∧ i = .int .i64 k ∧ Hid (Lx.gapTo false t.data.toList k = E)) (fun i => t.size - (intOf i).toNat)
 case atStart => exact ⟨k, hk0, rfl, HG⟩
 case round =>
  obtain ⟨k, hk, rfl, hn⟩ := hrel
  by_cases hlt : k < t.size
  ·have hl : k < t.data.toList.length := by simpa using hlt
   have ht : t.data.toList[k] = t[k] := rfl
   by_cases hb : Lx.isBlank t[k] = true
   ·have h1 : hasB ⟨#[32, 9, 10]⟩ t[k] = true := by rw [hasB_blank]; exact hb
    have H2 : Hid (Lx.gapTo false t.data.toList (k + 1) = E) := (Lx.gapTo_blank hl hb).trans hn.out
    clear hb ht hn
    go_wp2_with (go_at_call 132; refine (rhas_any _ _ _ (by decide)).mono ?_; rintro e w' ⟨rfl, rfl⟩)
    go_round
    case rel => exact ⟨k + 1, by omega, by go_num, H2⟩
    case measure => simp [intOf]; omega
   ·have h1 : hasB ⟨#[32, 9, 10]⟩ t[k] = false := by rw [hasB_blank]; simpa using hb
    by_cases hh : t[k] = 35
    ·have h3 : ((t[k].toNat : Int) == 35) = true := u8_eq (d := 35) hh
     have H2 : Hid (Lx.gapTo true t.data.toList k = E) := by
      have a := Lx.gapTo_hash hl hh
      have b : Lx.gapTo true t.data.toList (k + 1) = Lx.gapTo true t.data.toList k := Lx.gapTo_in hl (by show t[k] ≠ 10; rw [hh]; decide)
      exact (b.symm.trans a).trans hn.out
     have hh' := hid hh
     clear hb ht hn hh
     go_wp2_with (go_at_call 132; refine (rhas_any _ _ _ (by decide)).mono ?_; rintro e w' ⟨rfl, rfl⟩)
     go_loop [1] (fun i => ∃ j : Nat, k ≤ j ∧ j ≤ t.size ∧ i = .int .i64 j ∧ Hid (Lx.gapTo true t.data.toList j = E)) (fun i => t.size - (intOf i).toNat)
     case atStart => exact ⟨k, Nat.le_refl _, hk, rfl, H2⟩
     case round =>
      obtain ⟨j, hkj, hj, rfl, hm⟩ := hrel
      by_cases hjt : j < t.size
      ·have hl' : j < t.data.toList.length := by simpa using hjt
       by_cases h10 : t[j] = 10
       ·have h4 : ((t[j].toNat : Int) != 10) = false := u8_bne_f (d := 10) h10
        have H5 : Hid (Lx.gapTo false t.data.toList j = E) := (Lx.gapTo_out hl' h10).trans hm.out
        have hne : k < j := by
         have : k ≠ j := fun e => by subst e; rw [hh'.out] at h10; exact absurd h10 (by decide)
         omega
        clear hm h10
        go_wp2
        go_round
        case rel => exact ⟨j, hj, rfl, H5⟩
        case measure => simp [intOf]; omega
       ·have h4 : ((t[j].toNat : Int) != 10) = true := u8_bne_t (d := 10) h10
        have H5 : Hid (Lx.gapTo true t.data.toList (j + 1) = E) := (Lx.gapTo_in hl' h10).trans hm.out
        clear hm h10
        go_wp2
        go_round
        case rel => exact ⟨j + 1, by omega, by omega, by go_num, H5⟩
        case measure => simp [intOf]; omega
      ·have H5 : Hid (Lx.gapTo false t.data.toList j = E) := by
        have a : Lx.gapTo true t.data.toList j = t.size := Lx.gapTo_end (by simpa using Nat.le_of_not_lt hjt)
        have b : Lx.gapTo false t.data.toList j = t.size := Lx.gapTo_end (by simpa using Nat.le_of_not_lt hjt)
        exact (b.trans a.symm).trans hm.out
       clear hm
       go_wp2
       go_round
       case rel => exact ⟨j, hj, rfl, H5⟩
       case measure => simp [intOf]; omega
    ·have h3 : ((t[k].toNat : Int) == 35) = false := u8_ne (d := 35) hh
     have H2 : Hid (k = E) := (Lx.gapTo_stop hl (Bool.eq_false_iff.2 hb) hh).symm.trans hn.out
     clear hb ht hn hh
     go_wp2_with (go_at_call 132; refine (rhas_any _ _ _ (by decide)).mono ?_; rintro e w' ⟨rfl, rfl⟩)
     go_ret
     exact ⟨ret_nat H2.out, rfl⟩
  ·have H2 : Hid (k = E) := by
    have : Lx.gapTo false t.data.toList k = t.size := Lx.gapTo_end (by simpa using Nat.le_of_not_lt hlt)
    exact (show k = t.size by omega).trans (this.symm.trans hn.out)
   go_wp2
   go_ret
   exact ⟨ret_nat H2.out, rfl⟩

set_option maxRecDepth 100000 in
set_option maxHeartbeats 800000 in
theorem rnext_letter_core (t : ByteArray) (k E : Nat) (w : World) (hs : t.size ≤ maxLen) (hk : k < t.size) (h : Lx.isLetter t[k] = true)
  (hE : Hid (Lx.run Lx.isWord t.data.toList (k + 1) = E)) :
  Calls Tryz.prog 98 #[.string t, .int .i64 k] w (Gives (rnextV k (Lx.nextTok t[k] (t.data.toList.drop (k + 1)))) w) := by
 unfold maxLen at hs
 go_enter Tryz.func98, Tryz.ntmps98
 go_wp2_with (go_at_call 133; refine (letter_any _ _).mono ?_; rintro e w' ⟨rfl, rfl⟩)
 go_loop [6] (fun i => ∃ j : Nat, k < j ∧ j ≤ t.size ∧ i = .int .i64 j ∧ Hid (Lx.run Lx.isWord t.data.toList j = E)) (fun i => t.size - (intOf i).toNat)
 case atStart => exact ⟨k + 1, by omega, by omega, by go_num, hE⟩
 case round =>
  obtain ⟨j, hkj, hj, rfl, hm⟩ := hrel
  by_cases hjt : j < t.size
  ·have hl' : j < t.data.toList.length := by simpa using hjt
   by_cases hw : Lx.isWord t[j] = true
   ·have H5 : Hid (Lx.run Lx.isWord t.data.toList (j + 1) = E) := (Lx.run_step hl' hw).trans hm.out
    clear hm
    go_wp2_with (go_at_call 134; refine (word_any _ _).mono ?_; rintro e w' ⟨rfl, rfl⟩)
    go_round
    case rel => exact ⟨j + 1, by omega, by omega, by go_num, H5⟩
    case measure => simp [intOf]; omega
   ·have hw' : Lx.isWord t[j] = false := Bool.eq_false_iff.2 hw
    have H5 : Hid (j = E) := (Lx.run_stop (fun _ => hw')).symm.trans hm.out
    clear hm hw
    go_wp2_with (go_at_call 134; refine (word_any _ _).mono ?_; rintro e w' ⟨rfl, rfl⟩)
    ·refine post_cell_tmp rfl (v := tok0) (x := .int .i64 2) rfl (by simp [go_sem, tok0]) rfl rfl ?_
     exact rnext_done (Lx.next_letter_err (by simpa using hk) h (by rw [hE.out, ← H5.out]; omega)) rfl (by repeat (first | exact Below.refl _ _ | refine Below.alloc ?_ (by simp) _))
    ·refine post_cell_tmp rfl (v := .agg #[.int .i64 1, .int .i64 k, .int .i64 0, .string (t.extract k j)]) (x := .int .i64 0) rfl (by simp [go_sem]) rfl rfl ?_
     exact rnext_done (Lx.next_letter_ok (by simpa using hk) h (by rw [hE.out, ← H5.out]; omega)) (by rw [extract_bs, hE.out, ← H5.out]; rfl) (by repeat (first | exact Below.refl _ _ | refine Below.alloc ?_ (by simp) _))
  ·have H5 : Hid (j = E) := (Lx.run_stop (fun hh => absurd hh (by simpa using hjt))).symm.trans hm.out
   clear hm
   go_wp2
   ·refine post_cell_tmp rfl (v := tok0) (x := .int .i64 2) rfl (by simp [go_sem, tok0]) rfl rfl ?_
    exact rnext_done (Lx.next_letter_err (by simpa using hk) h (by rw [hE.out, ← H5.out]; omega)) rfl (by repeat (first | exact Below.refl _ _ | refine Below.alloc ?_ (by simp) _))
   ·refine post_cell_tmp rfl (v := .agg #[.int .i64 1, .int .i64 k, .int .i64 0, .string (t.extract k j)]) (x := .int .i64 0) rfl (by simp [go_sem]) rfl rfl ?_
    exact rnext_done (Lx.next_letter_ok (by simpa using hk) h (by rw [hE.out, ← H5.out]; omega)) (by rw [extract_bs, hE.out, ← H5.out]; rfl) (by repeat (first | exact Below.refl _ _ | refine Below.alloc ?_ (by simp) _))

set_option maxRecDepth 100000 in
set_option maxHeartbeats 800000 in
theorem rnext_quote_core (t : ByteArray) (k E : Nat) (w : World) (hs : t.size ≤ maxLen) (hk : k < t.size) (h : t[k] = 34)
  (hE : Hid (Lx.run Lx.inBody t.data.toList (k + 1) = E)) :
  Calls Tryz.prog 98 #[.string t, .int .i64 k] w (Gives (rnextV k (Lx.nextTok t[k] (t.data.toList.drop (k + 1)))) w) := by
 unfold maxLen at hs
 have hl : k < t.data.toList.length := by simpa using hk
 have g1 : Lx.isLetter t[k] = false := by rw [h]; decide
 have g2 : Lx.isDigit t[k] = false := by rw [h]; decide
 have g3 : ((t[k].toNat : Int) == 34) = true := u8_eq (d := 34) h
 have h' := hid h
 clear h
 go_enter Tryz.func98, Tryz.ntmps98
 go_wp2_with (first | (go_at_call 133; refine (letter_any _ _).mono ?_; rintro e w' ⟨rfl, rfl⟩) | (go_at_call 135; refine (digit_any _ _).mono ?_; rintro e w' ⟨rfl, rfl⟩))
 go_loop [6] (fun i => ∃ j : Nat, k < j ∧ j ≤ t.size ∧ i = .int .i64 j ∧ Hid (Lx.run Lx.inBody t.data.toList j = E)) (fun i => t.size - (intOf i).toNat)
 case atStart => exact ⟨k + 1, by omega, by omega, by go_num, hE⟩
 case round =>
  obtain ⟨j, hkj, hj, rfl, hm⟩ := hrel
  by_cases hjt : j < t.size
  ·have hl' : j < t.data.toList.length := by simpa using hjt
   by_cases h34 : t[j] = 34
   ·have q1 : ((t[j].toNat : Int) != 34) = false := u8_bne_f (d := 34) h34
    have q2 : ((t[j].toNat : Int) == 10) = false := u8_ne (d := 10) (by rw [h34]; decide)
    have H5 : Hid (j = E) := (Lx.run_stop (p := Lx.inBody) (fun _ => by show Lx.inBody t[j] = false; rw [h34]; decide)).symm.trans hm.out
    have H6 := hid h34
    clear hm h34
    go_wp2
    ·refine post_cell_tmp rfl (v := tok0) (x := .int .i64 2) rfl (by simp [go_sem, tok0]) rfl rfl ?_
     have e := H5.out
     subst e
     exact rnext_done (Lx.next_quote_long hl h'.out (by rw [hE.out]; exact hl') (by simp only [hE.out]; show t[j] ≠ 10; rw [H6.out]; decide) (by rw [hE.out]; omega)) rfl (by repeat (first | exact Below.refl _ _ | refine Below.alloc ?_ (by simp) _))
    ·refine post_cell_tmp rfl (v := .agg #[.int .i64 3, .int .i64 k, .int .i64 0, .string (t.extract (k + 1) j)]) (x := .int .i64 0) rfl (by simp [go_sem]) rfl rfl ?_
     have e := H5.out
     subst e
     exact rnext_done (Lx.next_quote_ok hl h'.out (by rw [hE.out]; exact hl') (by simp only [hE.out]; show t[j] ≠ 10; rw [H6.out]; decide) (by rw [hE.out]; omega)) (by rw [extract_bs, hE.out]; rfl) (by repeat (first | exact Below.refl _ _ | refine Below.alloc ?_ (by simp) _))
   ·have q1 : ((t[j].toNat : Int) != 34) = true := u8_bne_t (d := 34) h34
    by_cases h10 : t[j] = 10
    ·have q2 : ((t[j].toNat : Int) != 10) = false := u8_bne_f (d := 10) h10
     have q3 : ((t[j].toNat : Int) == 10) = true := u8_eq (d := 10) h10
     have H5 : Hid (j = E) := (Lx.run_stop (p := Lx.inBody) (fun _ => by show Lx.inBody t[j] = false; rw [h10]; decide)).symm.trans hm.out
     have H6 := hid h10
     clear hm h10 h34
     go_wp2
     refine post_cell_tmp rfl (v := tok0) (x := .int .i64 6) rfl (by simp [go_sem, tok0]) rfl rfl ?_
     have e := H5.out
     subst e
     exact rnext_done (Lx.next_quote_open hl h'.out (fun hh => by simp only [hE.out]; exact H6.out)) rfl (by repeat (first | exact Below.refl _ _ | refine Below.alloc ?_ (by simp) _))
    ·have q2 : ((t[j].toNat : Int) != 10) = true := u8_bne_t (d := 10) h10
     have H5 : Hid (Lx.run Lx.inBody t.data.toList (j + 1) = E) := (Lx.run_step hl' (by show Lx.inBody t[j] = true; simp [Lx.inBody, h34, h10])).trans hm.out
     clear hm h10 h34
     go_wp2
     go_round
     case rel => exact ⟨j + 1, by omega, by omega, by go_num, H5⟩
     case measure => simp [intOf]; omega
  ·have H5 : Hid (j = E) := (Lx.run_stop (fun hh => absurd hh (by simpa using hjt))).symm.trans hm.out
   have q1 : ((j : Int) == (t.size : Int)) = true := by rw [beq_iff_eq]; omega
   clear hm
   go_wp2
   refine post_cell_tmp rfl (v := tok0) (x := .int .i64 6) rfl (by simp [go_sem, tok0]) rfl rfl ?_
   have e := H5.out
   subst e
   exact rnext_done (Lx.next_quote_open hl h'.out (fun hh => by rw [hE.out] at hh; exact absurd hh (by simpa using hjt))) rfl (by repeat (first | exact Below.refl _ _ | refine Below.alloc ?_ (by simp) _))

set_option maxRecDepth 100000 in
set_option maxHeartbeats 800000 in
theorem rnext_two (t : ByteArray) (k : Nat) (w : World) (hs : t.size ≤ maxLen) (hk : k < t.size) (h : Lx.isRest t[k] = true) (hk1 : k + 1 < t.size) (hc : t[k] = 33 ∨ Lx.isAngle t[k] = true) (he : t[k + 1] = 61) :
  Calls Tryz.prog 98 #[.string t, .int .i64 k] w (Gives (rnextV k (Lx.nextTok t[k] (t.data.toList.drop (k + 1)))) w) := by
 unfold maxLen at hs
 have hl : k < t.data.toList.length := by simpa using hk
 have g1 : Lx.isLetter t[k] = false := by have := h; simp [Lx.isRest] at this; exact this.1.1
 have g2 : Lx.isDigit t[k] = false := by have := h; simp [Lx.isRest] at this; exact this.1.2
 have g3 : ((t[k].toNat : Int) == 34) = false := u8_ne (d := 34) (by have := h; simp [Lx.isRest] at this; exact this.2)
 have h' := hid h
 clear h
 have g4 : hasB ⟨#[33, 60, 62]⟩ t[k] = true := (hasB_mark _).2 hc
 have g5 : ((t[k + 1].toNat : Int) == 61) = true := u8_eq (d := 61) he
 have hc' := hid hc
 have he' := hid he
 clear hc he
 go_enter Tryz.func98, Tryz.ntmps98
 go_wp2_with (first | (go_at_call 133; refine (letter_any _ _).mono ?_; rintro e w' ⟨rfl, rfl⟩) | (go_at_call 135; refine (digit_any _ _).mono ?_; rintro e w' ⟨rfl, rfl⟩) | (go_at_call 134; refine (word_any _ _).mono ?_; rintro e w' ⟨rfl, rfl⟩) | (go_at_call 132; refine (rhas_any _ _ _ (by decide)).mono ?_; rintro e w' ⟨rfl, rfl⟩))
 refine post_cell_tmp rfl (v := .agg #[.int .i64 4, .int .i64 k, .int .i64 0, .string (t.extract k (k + 2))]) (x := .int .i64 0) rfl (by simp [go_sem]) rfl rfl ?_
 exact rnext_done (Lx.next_two (by simpa using hk1) h'.out hc'.out he'.out) (by rw [extract_bs, Nat.add_sub_cancel_left]; rfl) (by repeat (first | exact Below.refl _ _ | refine Below.alloc ?_ (by simp) _ | refine below_drewN ?_ _ | refine Below.drew ?_))

set_option maxRecDepth 100000 in
set_option maxHeartbeats 800000 in
theorem rnext_one_plain (t : ByteArray) (k : Nat) (w : World) (hs : t.size ≤ maxLen) (hk : k < t.size) (h : Lx.isRest t[k] = true) (hc : ¬ (t[k] = 33 ∨ Lx.isAngle t[k] = true)) (hs' : Lx.isAngle t[k] = true ∨ Lx.isPlain t[k] = true) :
  Calls Tryz.prog 98 #[.string t, .int .i64 k] w (Gives (rnextV k (Lx.nextTok t[k] (t.data.toList.drop (k + 1)))) w) := by
 unfold maxLen at hs
 have hl : k < t.data.toList.length := by simpa using hk
 have g1 : Lx.isLetter t[k] = false := by have := h; simp [Lx.isRest] at this; exact this.1.1
 have g2 : Lx.isDigit t[k] = false := by have := h; simp [Lx.isRest] at this; exact this.1.2
 have g3 : ((t[k].toNat : Int) == 34) = false := u8_ne (d := 34) (by have := h; simp [Lx.isRest] at this; exact this.2)
 have h' := hid h
 clear h
 have g4 : hasB ⟨#[33, 60, 62]⟩ t[k] = false := by rw [Bool.eq_false_iff]; exact fun hh => hc ((hasB_mark _).1 hh)
 have hc' := hid hc
 clear hc
 have g6 : hasB ⟨#[59, 44, 46, 58, 40, 41, 91, 93, 123, 125, 61, 60, 62, 43, 45]⟩ t[k] = true := (hasB_sym _).2 hs'
 have hs2 := hid hs'
 clear hs'
 go_enter Tryz.func98, Tryz.ntmps98
 go_wp2_with (first | (go_at_call 133; refine (letter_any _ _).mono ?_; rintro e w' ⟨rfl, rfl⟩) | (go_at_call 135; refine (digit_any _ _).mono ?_; rintro e w' ⟨rfl, rfl⟩) | (go_at_call 134; refine (word_any _ _).mono ?_; rintro e w' ⟨rfl, rfl⟩) | (go_at_call 132; refine (rhas_any _ _ _ (by decide)).mono ?_; rintro e w' ⟨rfl, rfl⟩))
 refine post_cell_tmp rfl (v := .agg #[.int .i64 4, .int .i64 k, .int .i64 0, .string (t.extract k (k + 1))]) (x := .int .i64 0) rfl (by simp [go_sem]) rfl rfl ?_
 exact rnext_done (Lx.next_one hl h'.out (fun hc => absurd hc hc'.out) hs2.out) (by rw [extract_bs, Nat.add_sub_cancel_left]; rfl) (by repeat (first | exact Below.refl _ _ | refine Below.alloc ?_ (by simp) _ | refine below_drewN ?_ _ | refine Below.drew ?_))

set_option maxRecDepth 100000 in
set_option maxHeartbeats 800000 in
theorem rnext_bad_plain (t : ByteArray) (k : Nat) (w : World) (hs : t.size ≤ maxLen) (hk : k < t.size) (h : Lx.isRest t[k] = true) (hc : ¬ (t[k] = 33 ∨ Lx.isAngle t[k] = true)) (hs' : Lx.isAngle t[k] = false ∧ Lx.isPlain t[k] = false) :
  Calls Tryz.prog 98 #[.string t, .int .i64 k] w (Gives (rnextV k (Lx.nextTok t[k] (t.data.toList.drop (k + 1)))) w) := by
 unfold maxLen at hs
 have hl : k < t.data.toList.length := by simpa using hk
 have g1 : Lx.isLetter t[k] = false := by have := h; simp [Lx.isRest] at this; exact this.1.1
 have g2 : Lx.isDigit t[k] = false := by have := h; simp [Lx.isRest] at this; exact this.1.2
 have g3 : ((t[k].toNat : Int) == 34) = false := u8_ne (d := 34) (by have := h; simp [Lx.isRest] at this; exact this.2)
 have h' := hid h
 clear h
 have g4 : hasB ⟨#[33, 60, 62]⟩ t[k] = false := by rw [Bool.eq_false_iff]; exact fun hh => hc ((hasB_mark _).1 hh)
 have hc' := hid hc
 clear hc
 have g6 : hasB ⟨#[59, 44, 46, 58, 40, 41, 91, 93, 123, 125, 61, 60, 62, 43, 45]⟩ t[k] = false := by
  rw [Bool.eq_false_iff]; intro hh; rcases (hasB_sym _).1 hh with hh | hh <;> simp [hs'] at hh
 have hs2 := hid hs'
 clear hs'
 go_enter Tryz.func98, Tryz.ntmps98
 go_wp2_with (first | (go_at_call 133; refine (letter_any _ _).mono ?_; rintro e w' ⟨rfl, rfl⟩) | (go_at_call 135; refine (digit_any _ _).mono ?_; rintro e w' ⟨rfl, rfl⟩) | (go_at_call 134; refine (word_any _ _).mono ?_; rintro e w' ⟨rfl, rfl⟩) | (go_at_call 132; refine (rhas_any _ _ _ (by decide)).mono ?_; rintro e w' ⟨rfl, rfl⟩))
 refine post_cell_tmp rfl (v := tok0) (x := .int .i64 3) rfl (by simp [go_sem, tok0]) rfl rfl ?_
 exact rnext_done (Lx.next_bad hl h'.out (fun hc => absurd hc hc'.out) hs2.out) rfl (by repeat (first | exact Below.refl _ _ | refine Below.alloc ?_ (by simp) _ | refine below_drewN ?_ _ | refine Below.drew ?_))

set_option maxRecDepth 100000 in
set_option maxHeartbeats 800000 in
theorem rnext_one_end (t : ByteArray) (k : Nat) (w : World) (hs : t.size ≤ maxLen) (hk : k < t.size) (h : Lx.isRest t[k] = true) (hk1 : ¬ k + 1 < t.size) (hc : t[k] = 33 ∨ Lx.isAngle t[k] = true) (hs' : Lx.isAngle t[k] = true ∨ Lx.isPlain t[k] = true) :
  Calls Tryz.prog 98 #[.string t, .int .i64 k] w (Gives (rnextV k (Lx.nextTok t[k] (t.data.toList.drop (k + 1)))) w) := by
 unfold maxLen at hs
 have hl : k < t.data.toList.length := by simpa using hk
 have g1 : Lx.isLetter t[k] = false := by have := h; simp [Lx.isRest] at this; exact this.1.1
 have g2 : Lx.isDigit t[k] = false := by have := h; simp [Lx.isRest] at this; exact this.1.2
 have g3 : ((t[k].toNat : Int) == 34) = false := u8_ne (d := 34) (by have := h; simp [Lx.isRest] at this; exact this.2)
 have h' := hid h
 clear h
 have g4 : hasB ⟨#[33, 60, 62]⟩ t[k] = true := (hasB_mark _).2 hc
 have hc' := hid hc
 clear hc
 have g6 : hasB ⟨#[59, 44, 46, 58, 40, 41, 91, 93, 123, 125, 61, 60, 62, 43, 45]⟩ t[k] = true := (hasB_sym _).2 hs'
 have hs2 := hid hs'
 clear hs'
 go_enter Tryz.func98, Tryz.ntmps98
 go_wp2_with (first | (go_at_call 133; refine (letter_any _ _).mono ?_; rintro e w' ⟨rfl, rfl⟩) | (go_at_call 135; refine (digit_any _ _).mono ?_; rintro e w' ⟨rfl, rfl⟩) | (go_at_call 134; refine (word_any _ _).mono ?_; rintro e w' ⟨rfl, rfl⟩) | (go_at_call 132; refine (rhas_any _ _ _ (by decide)).mono ?_; rintro e w' ⟨rfl, rfl⟩))
 refine post_cell_tmp rfl (v := .agg #[.int .i64 4, .int .i64 k, .int .i64 0, .string (t.extract k (k + 1))]) (x := .int .i64 0) rfl (by simp [go_sem]) rfl rfl ?_
 exact rnext_done (Lx.next_one hl h'.out (fun _ hh => absurd hh (by simpa using hk1)) hs2.out) (by rw [extract_bs, Nat.add_sub_cancel_left]; rfl) (by repeat (first | exact Below.refl _ _ | refine Below.alloc ?_ (by simp) _ | refine below_drewN ?_ _ | refine Below.drew ?_))

set_option maxRecDepth 100000 in
set_option maxHeartbeats 800000 in
theorem rnext_bad_end (t : ByteArray) (k : Nat) (w : World) (hs : t.size ≤ maxLen) (hk : k < t.size) (h : Lx.isRest t[k] = true) (hk1 : ¬ k + 1 < t.size) (hc : t[k] = 33 ∨ Lx.isAngle t[k] = true) (hs' : Lx.isAngle t[k] = false ∧ Lx.isPlain t[k] = false) :
  Calls Tryz.prog 98 #[.string t, .int .i64 k] w (Gives (rnextV k (Lx.nextTok t[k] (t.data.toList.drop (k + 1)))) w) := by
 unfold maxLen at hs
 have hl : k < t.data.toList.length := by simpa using hk
 have g1 : Lx.isLetter t[k] = false := by have := h; simp [Lx.isRest] at this; exact this.1.1
 have g2 : Lx.isDigit t[k] = false := by have := h; simp [Lx.isRest] at this; exact this.1.2
 have g3 : ((t[k].toNat : Int) == 34) = false := u8_ne (d := 34) (by have := h; simp [Lx.isRest] at this; exact this.2)
 have h' := hid h
 clear h
 have g4 : hasB ⟨#[33, 60, 62]⟩ t[k] = true := (hasB_mark _).2 hc
 have hc' := hid hc
 clear hc
 have g6 : hasB ⟨#[59, 44, 46, 58, 40, 41, 91, 93, 123, 125, 61, 60, 62, 43, 45]⟩ t[k] = false := by
  rw [Bool.eq_false_iff]; intro hh; rcases (hasB_sym _).1 hh with hh | hh <;> simp [hs'] at hh
 have hs2 := hid hs'
 clear hs'
 go_enter Tryz.func98, Tryz.ntmps98
 go_wp2_with (first | (go_at_call 133; refine (letter_any _ _).mono ?_; rintro e w' ⟨rfl, rfl⟩) | (go_at_call 135; refine (digit_any _ _).mono ?_; rintro e w' ⟨rfl, rfl⟩) | (go_at_call 134; refine (word_any _ _).mono ?_; rintro e w' ⟨rfl, rfl⟩) | (go_at_call 132; refine (rhas_any _ _ _ (by decide)).mono ?_; rintro e w' ⟨rfl, rfl⟩))
 refine post_cell_tmp rfl (v := tok0) (x := .int .i64 3) rfl (by simp [go_sem, tok0]) rfl rfl ?_
 exact rnext_done (Lx.next_bad hl h'.out (fun _ hh => absurd hh (by simpa using hk1)) hs2.out) rfl (by repeat (first | exact Below.refl _ _ | refine Below.alloc ?_ (by simp) _ | refine below_drewN ?_ _ | refine Below.drew ?_))

set_option maxRecDepth 100000 in
set_option maxHeartbeats 800000 in
theorem rnext_one_else (t : ByteArray) (k : Nat) (w : World) (hs : t.size ≤ maxLen) (hk : k < t.size) (h : Lx.isRest t[k] = true) (hk1 : k + 1 < t.size) (hc : t[k] = 33 ∨ Lx.isAngle t[k] = true) (he : t[k + 1] ≠ 61) (hs' : Lx.isAngle t[k] = true ∨ Lx.isPlain t[k] = true) :
  Calls Tryz.prog 98 #[.string t, .int .i64 k] w (Gives (rnextV k (Lx.nextTok t[k] (t.data.toList.drop (k + 1)))) w) := by
 unfold maxLen at hs
 have hl : k < t.data.toList.length := by simpa using hk
 have g1 : Lx.isLetter t[k] = false := by have := h; simp [Lx.isRest] at this; exact this.1.1
 have g2 : Lx.isDigit t[k] = false := by have := h; simp [Lx.isRest] at this; exact this.1.2
 have g3 : ((t[k].toNat : Int) == 34) = false := u8_ne (d := 34) (by have := h; simp [Lx.isRest] at this; exact this.2)
 have h' := hid h
 clear h
 have g4 : hasB ⟨#[33, 60, 62]⟩ t[k] = true := (hasB_mark _).2 hc
 have g5 : ((t[k + 1].toNat : Int) == 61) = false := u8_ne (d := 61) he
 have hc' := hid hc
 have he' := hid he
 clear hc he
 have g6 : hasB ⟨#[59, 44, 46, 58, 40, 41, 91, 93, 123, 125, 61, 60, 62, 43, 45]⟩ t[k] = true := (hasB_sym _).2 hs'
 have hs2 := hid hs'
 clear hs'
 go_enter Tryz.func98, Tryz.ntmps98
 go_wp2_with (first | (go_at_call 133; refine (letter_any _ _).mono ?_; rintro e w' ⟨rfl, rfl⟩) | (go_at_call 135; refine (digit_any _ _).mono ?_; rintro e w' ⟨rfl, rfl⟩) | (go_at_call 134; refine (word_any _ _).mono ?_; rintro e w' ⟨rfl, rfl⟩) | (go_at_call 132; refine (rhas_any _ _ _ (by decide)).mono ?_; rintro e w' ⟨rfl, rfl⟩))
 refine post_cell_tmp rfl (v := .agg #[.int .i64 4, .int .i64 k, .int .i64 0, .string (t.extract k (k + 1))]) (x := .int .i64 0) rfl (by simp [go_sem]) rfl rfl ?_
 exact rnext_done (Lx.next_one hl h'.out (fun _ hh => he'.out) hs2.out) (by rw [extract_bs, Nat.add_sub_cancel_left]; rfl) (by repeat (first | exact Below.refl _ _ | refine Below.alloc ?_ (by simp) _ | refine below_drewN ?_ _ | refine Below.drew ?_))

set_option maxRecDepth 100000 in
set_option maxHeartbeats 800000 in
theorem rnext_bad_else (t : ByteArray) (k : Nat) (w : World) (hs : t.size ≤ maxLen) (hk : k < t.size) (h : Lx.isRest t[k] = true) (hk1 : k + 1 < t.size) (hc : t[k] = 33 ∨ Lx.isAngle t[k] = true) (he : t[k + 1] ≠ 61) (hs' : Lx.isAngle t[k] = false ∧ Lx.isPlain t[k] = false) :
  Calls Tryz.prog 98 #[.string t, .int .i64 k] w (Gives (rnextV k (Lx.nextTok t[k] (t.data.toList.drop (k + 1)))) w) := by
 unfold maxLen at hs
 have hl : k < t.data.toList.length := by simpa using hk
 have g1 : Lx.isLetter t[k] = false := by have := h; simp [Lx.isRest] at this; exact this.1.1
 have g2 : Lx.isDigit t[k] = false := by have := h; simp [Lx.isRest] at this; exact this.1.2
 have g3 : ((t[k].toNat : Int) == 34) = false := u8_ne (d := 34) (by have := h; simp [Lx.isRest] at this; exact this.2)
 have h' := hid h
 clear h
 have g4 : hasB ⟨#[33, 60, 62]⟩ t[k] = true := (hasB_mark _).2 hc
 have g5 : ((t[k + 1].toNat : Int) == 61) = false := u8_ne (d := 61) he
 have hc' := hid hc
 have he' := hid he
 clear hc he
 have g6 : hasB ⟨#[59, 44, 46, 58, 40, 41, 91, 93, 123, 125, 61, 60, 62, 43, 45]⟩ t[k] = false := by
  rw [Bool.eq_false_iff]; intro hh; rcases (hasB_sym _).1 hh with hh | hh <;> simp [hs'] at hh
 have hs2 := hid hs'
 clear hs'
 go_enter Tryz.func98, Tryz.ntmps98
 go_wp2_with (first | (go_at_call 133; refine (letter_any _ _).mono ?_; rintro e w' ⟨rfl, rfl⟩) | (go_at_call 135; refine (digit_any _ _).mono ?_; rintro e w' ⟨rfl, rfl⟩) | (go_at_call 134; refine (word_any _ _).mono ?_; rintro e w' ⟨rfl, rfl⟩) | (go_at_call 132; refine (rhas_any _ _ _ (by decide)).mono ?_; rintro e w' ⟨rfl, rfl⟩))
 refine post_cell_tmp rfl (v := tok0) (x := .int .i64 3) rfl (by simp [go_sem, tok0]) rfl rfl ?_
 exact rnext_done (Lx.next_bad hl h'.out (fun _ hh => he'.out) hs2.out) rfl (by repeat (first | exact Below.refl _ _ | refine Below.alloc ?_ (by simp) _ | refine below_drewN ?_ _ | refine Below.drew ?_))

set_option maxRecDepth 100000 in
set_option maxHeartbeats 800000 in
theorem rnext_digit_err (t : ByteArray) (k E : Nat) (w : World) (hs : t.size ≤ maxLen) (hk : k < t.size) (h : Lx.isDigit t[k] = true)
  (hE : Hid (Lx.run Lx.isDigit t.data.toList (k + 1) = E)) (hbad : 13 < E - k ∨ ∃ hh : E < t.size, Lx.isWord t[E] = true) :
  Calls Tryz.prog 98 #[.string t, .int .i64 k] w (Gives (rnextV k (Lx.nextTok t[k] (t.data.toList.drop (k + 1)))) w) := by
 unfold maxLen at hs
 have hl : k < t.data.toList.length := by simpa using hk
 have g1 : Lx.isLetter t[k] = false := Lx.letter_of_digit h
 have hbad' := hid hbad
 clear hbad
 go_enter Tryz.func98, Tryz.ntmps98
 go_wp2_with (first | (go_at_call 133; refine (letter_any _ _).mono ?_; rintro e w' ⟨rfl, rfl⟩) | (go_at_call 135; refine (digit_any _ _).mono ?_; rintro e w' ⟨rfl, rfl⟩))
 go_loop [6] (fun i => ∃ j : Nat, k < j ∧ j ≤ t.size ∧ i = .int .i64 j ∧ Hid (Lx.run Lx.isDigit t.data.toList j = E)) (fun i => t.size - (intOf i).toNat)
 case atStart => exact ⟨k + 1, by omega, by omega, by go_num, hE⟩
 case round =>
  obtain ⟨j, hkj, hj, rfl, hm⟩ := hrel
  by_cases hjd : ∃ hh : j < t.size, Lx.isDigit t[j] = true
  ·obtain ⟨hjt, hd⟩ := hjd
   have hl' : j < t.data.toList.length := by simpa using hjt
   have H5 : Hid (Lx.run Lx.isDigit t.data.toList (j + 1) = E) := (Lx.run_step hl' hd).trans hm.out
   clear hm
   go_wp2_with (go_at_call 135; refine (digit_any _ _).mono ?_; rintro e w' ⟨rfl, rfl⟩)
   go_round
   case rel => exact ⟨j + 1, by omega, by omega, by go_num, H5⟩
   case measure => simp [intOf]; omega
  ·have hjE : j = E := (Lx.run_stop (l := t.data.toList) (fun hh => Bool.eq_false_iff.2 fun hd => hjd ⟨by simpa using hh, hd⟩)).symm.trans hm.out
   clear hm
   subst hjE
   by_cases hlong : 13 < j - k
   ·have hgt : (13 : Int) < (j : Int) - (k : Int) := by omega
    by_cases hjt : j < t.size
    ·have hd : Lx.isDigit t[j] = false := Bool.eq_false_iff.2 fun hd => hjd ⟨hjt, hd⟩
     clear hjd
     go_wp2_with (go_at_call 135; refine (digit_any _ _).mono ?_; rintro e w' ⟨rfl, rfl⟩)
     refine post_cell_tmp rfl (v := tok0) (x := .int .i64 4) rfl (by simp [go_sem, tok0]) rfl rfl ?_
     exact rnext_done (Lx.next_digit_err hl h (.inl (by rw [hE.out]; omega))) rfl (by repeat (first | exact Below.refl _ _ | refine Below.alloc ?_ (by simp) _))
    ·clear hjd
     go_wp2
     refine post_cell_tmp rfl (v := tok0) (x := .int .i64 4) rfl (by simp [go_sem, tok0]) rfl rfl ?_
     exact rnext_done (Lx.next_digit_err hl h (.inl (by rw [hE.out]; omega))) rfl (by repeat (first | exact Below.refl _ _ | refine Below.alloc ?_ (by simp) _))
   ·have hle : (j : Int) - (k : Int) ≤ 13 := by omega
    obtain ⟨hjt, hw⟩ := hbad'.out.resolve_left hlong
    have hd : Lx.isDigit t[j] = false := Bool.eq_false_iff.2 fun hd => hjd ⟨hjt, hd⟩
    clear hjd
    go_wp2_with (first | (go_at_call 135; refine (digit_any _ _).mono ?_; rintro e w' ⟨rfl, rfl⟩) | (go_at_call 134; refine (word_any _ _).mono ?_; rintro e w' ⟨rfl, rfl⟩))
    refine post_cell_tmp rfl (v := tok0) (x := .int .i64 4) rfl (by simp [go_sem, tok0]) rfl rfl ?_
    exact rnext_done (Lx.next_digit_err hl h (.inr (by simp only [hE.out]; exact ⟨by simpa using hjt, hw⟩))) rfl (by repeat (first | exact Below.refl _ _ | refine Below.alloc ?_ (by simp) _))

set_option maxRecDepth 100000 in
set_option maxHeartbeats 1600000 in
theorem rnext_digit_ok (t : ByteArray) (k E : Nat) (w : World) (hs : t.size ≤ maxLen) (hk : k < t.size) (h : Lx.isDigit t[k] = true)
  (hE : Hid (Lx.run Lx.isDigit t.data.toList (k + 1) = E)) (h13 : E - k ≤ 13) (hgood : Hid (∀ hh : E < t.size, Lx.isWord t[E] = false)) :
  Calls Tryz.prog 98 #[.string t, .int .i64 k] w (Gives (rnextV k (Lx.nextTok t[k] (t.data.toList.drop (k + 1)))) w) := by
 unfold maxLen at hs
 have hl : k < t.data.toList.length := by simpa using hk
 have g1 : Lx.isLetter t[k] = false := Lx.letter_of_digit h
 have hEk : Hid (Lx.run Lx.isDigit t.data.toList k = E) := (Lx.run_step hl h).symm.trans hE.out
 have hkE : k < E := by have := Lx.run_ge Lx.isDigit t.data.toList (k + 1); rw [hE.out] at this; omega
 have hEs : E ≤ t.size := by have := Lx.run_le Lx.isDigit t.data.toList (k + 1) (by simp; omega); rw [hE.out] at this; simpa using this
 go_enter Tryz.func98, Tryz.ntmps98
 go_wp2_with (first | (go_at_call 133; refine (letter_any _ _).mono ?_; rintro e w' ⟨rfl, rfl⟩) | (go_at_call 135; refine (digit_any _ _).mono ?_; rintro e w' ⟨rfl, rfl⟩))
 go_loop [6] (fun i => ∃ j : Nat, k < j ∧ j ≤ t.size ∧ i = .int .i64 j ∧ Hid (Lx.run Lx.isDigit t.data.toList j = E)) (fun i => t.size - (intOf i).toNat)
 case atStart => exact ⟨k + 1, by omega, by omega, by go_num, hE⟩
 case round =>
  obtain ⟨j, hkj, hj, rfl, hm⟩ := hrel
  by_cases hjd : ∃ hh : j < t.size, Lx.isDigit t[j] = true
  ·obtain ⟨hjt, hd⟩ := hjd
   have hl' : j < t.data.toList.length := by simpa using hjt
   have H5 : Hid (Lx.run Lx.isDigit t.data.toList (j + 1) = E) := (Lx.run_step hl' hd).trans hm.out
   clear hm
   go_wp2_with (go_at_call 135; refine (digit_any _ _).mono ?_; rintro e w' ⟨rfl, rfl⟩)
   go_round
   case rel => exact ⟨j + 1, by omega, by omega, by go_num, H5⟩
   case measure => simp [intOf]; omega
  ·have hjE : j = E := (Lx.run_stop (l := t.data.toList) (fun hh => Bool.eq_false_iff.2 fun hd => hjd ⟨by simpa using hh, hd⟩)).symm.trans hm.out
   clear hm
   subst hjE
   have hle : (j : Int) - (k : Int) ≤ 13 := by omega
   have hgd := fun hh => Bool.eq_false_iff.2 fun hd => hjd ⟨hh, hd⟩
   clear hjd
   have key : ∀ (a : Act), True := fun _ => trivial
   by_cases hjt : j < t.size
   ·have hd : Lx.isDigit t[j] = false := hgd hjt
    have hw : Lx.isWord t[j] = false := hgood.out hjt
    clear hgd key
    go_wp2_with (first | (go_at_call 135; refine (digit_any _ _).mono ?_; rintro e w' ⟨rfl, rfl⟩) | (go_at_call 134; refine (word_any _ _).mono ?_; rintro e w' ⟨rfl, rfl⟩))
    go_loopw [9] (fun i wr => ∃ m q : Nat, k ≤ m ∧ m ≤ j ∧ i = .int .i64 m ∧ wr = ((w.alloc (.cells #[.int .i64 0, .int .i64 0, .int .i64 0, .string ⟨#[]⟩] 116)).alloc (.cells #[.int .i64 2, .int .i64 k, .int .i64 (numAt t k m), .string ⟨#[]⟩] 116)).drewN q) (fun i _ => j - (intOf i).toNat)
    case atStart => exact ⟨k, 0, Nat.le_refl _, by omega, rfl, by rw [numAt_self]; rfl⟩
    case round =>
     obtain ⟨m, q, hkm, hmj, rfl, rfl⟩ := hrel
     by_cases hlt : m < j
     ·have hmt : m < t.size := by omega
      obtain ⟨b1, b2⟩ := u8_sub48 (num_digit hEk.out hkm hlt hmt)
      have b3 := num_lt hEk.out h13 hmj
      have HS := hid (numAt_stepZ hkm hmt b1)
      go_wp2
      go_region
      go_wp2
      go_roundw
      case rel => exact ⟨m + 1, q + 1, by omega, by omega, by go_num, by rw [HS.out]⟩
      case measure => simp [intOf]; omega
     ·have hmE : m = j := by omega
      subst hmE
      go_wp2
      refine post_cell_tmp rfl (v := .agg #[.int .i64 2, .int .i64 k, .int .i64 (numAt t k m), .string (t.extract k m)]) (x := .int .i64 0) rfl (by simp [go_sem]) rfl rfl ?_
      exact rnext_done (Lx.next_digit_ok hl h (by rw [hE.out]; exact h13) (fun hh => by simp only [hE.out] at hh ⊢; exact hgood.out (by simpa using hh))) (by rw [extract_bs, hE.out]; rfl) (by repeat (first | exact Below.refl _ _ | refine Below.alloc ?_ (by simp) _ | refine below_drewN ?_ _))
   ·clear hgd key
    go_wp2
    go_loopw [9] (fun i wr => ∃ m q : Nat, k ≤ m ∧ m ≤ j ∧ i = .int .i64 m ∧ wr = ((w.alloc (.cells #[.int .i64 0, .int .i64 0, .int .i64 0, .string ⟨#[]⟩] 116)).alloc (.cells #[.int .i64 2, .int .i64 k, .int .i64 (numAt t k m), .string ⟨#[]⟩] 116)).drewN q) (fun i _ => j - (intOf i).toNat)
    case atStart => exact ⟨k, 0, Nat.le_refl _, by omega, rfl, by rw [numAt_self]; rfl⟩
    case round =>
     obtain ⟨m, q, hkm, hmj, rfl, rfl⟩ := hrel
     by_cases hlt : m < j
     ·have hmt : m < t.size := by omega
      obtain ⟨b1, b2⟩ := u8_sub48 (num_digit hEk.out hkm hlt hmt)
      have b3 := num_lt hEk.out h13 hmj
      have HS := hid (numAt_stepZ hkm hmt b1)
      go_wp2
      go_region
      go_wp2
      go_roundw
      case rel => exact ⟨m + 1, q + 1, by omega, by omega, by go_num, by rw [HS.out]⟩
      case measure => simp [intOf]; omega
     ·have hmE : m = j := by omega
      subst hmE
      go_wp2
      refine post_cell_tmp rfl (v := .agg #[.int .i64 2, .int .i64 k, .int .i64 (numAt t k m), .string (t.extract k m)]) (x := .int .i64 0) rfl (by simp [go_sem]) rfl rfl ?_
      exact rnext_done (Lx.next_digit_ok hl h (by rw [hE.out]; exact h13) (fun hh => by simp only [hE.out] at hh ⊢; exact hgood.out (by simpa using hh))) (by rw [extract_bs, hE.out]; rfl) (by repeat (first | exact Below.refl _ _ | refine Below.alloc ?_ (by simp) _ | refine below_drewN ?_ _))

/-- 'next' of the reference at every offset in the text -/
theorem rnext_any (t : ByteArray) (k : Nat) (w : World) (hs : t.size ≤ maxLen) (hk : k < t.size) :
  Calls Tryz.prog 98 #[.string t, .int .i64 k] w (Gives (rnextV k (Lx.nextTok t[k] (t.data.toList.drop (k + 1)))) w) := by
 by_cases h1 : Lx.isLetter t[k] = true
 ·exact rnext_letter_core t k _ w hs hk h1 rfl
 by_cases h2 : Lx.isDigit t[k] = true
 ·by_cases hbad : 13 < Lx.run Lx.isDigit t.data.toList (k + 1) - k ∨ ∃ hh : Lx.run Lx.isDigit t.data.toList (k + 1) < t.size, Lx.isWord t[Lx.run Lx.isDigit t.data.toList (k + 1)] = true
  ·exact rnext_digit_err t k _ w hs hk h2 rfl hbad
  ·exact rnext_digit_ok t k _ w hs hk h2 rfl (Nat.le_of_not_lt fun h => hbad (.inl h)) (fun hh => Bool.eq_false_iff.2 fun h => hbad (.inr ⟨hh, h⟩))
 by_cases h3 : t[k] = 34
 ·exact rnext_quote_core t k _ w hs hk h3 rfl
 have hr : Lx.isRest t[k] = true := by simp [Lx.isRest, h1, h2, h3]
 by_cases hs' : Lx.isAngle t[k] = true ∨ Lx.isPlain t[k] = true
 ·by_cases hc : t[k] = 33 ∨ Lx.isAngle t[k] = true
  ·by_cases hk1 : k + 1 < t.size
   ·by_cases he : t[k + 1] = 61
    ·exact rnext_two t k w hs hk hr hk1 hc he
    ·exact rnext_one_else t k w hs hk hr hk1 hc he hs'
   ·exact rnext_one_end t k w hs hk hr hk1 hc hs'
  ·exact rnext_one_plain t k w hs hk hr hc hs'
 ·have hs2 : Lx.isAngle t[k] = false ∧ Lx.isPlain t[k] = false := ⟨Bool.eq_false_iff.2 fun h => hs' (.inl h), Bool.eq_false_iff.2 fun h => hs' (.inr h)⟩
  by_cases hc : t[k] = 33 ∨ Lx.isAngle t[k] = true
  ·by_cases hk1 : k + 1 < t.size
   ·by_cases he : t[k + 1] = 61
    ·exact rnext_two t k w hs hk hr hk1 hc he
    ·exact rnext_bad_else t k w hs hk hr hk1 hc he hs2
   ·exact rnext_bad_end t k w hs hk hr hk1 hc hs2
  ·exact rnext_bad_plain t k w hs hk hr hc hs2

theorem width_any (kind at_ n : Int) (s : ByteArray) (w : World) (hs : s.size + 2 ≤ maxLen) :
  Calls Tryz.prog 99 #[.agg #[.int .i64 kind, .int .i64 at_, .int .i64 n, .string s]] w (Gives (.int .i64 (if kind = 3 then (s.size : Int) + 2 else s.size)) w) := by
 unfold maxLen at hs
 by_cases h : kind = 3
 ·subst h
  go_enter Tryz.func99, Tryz.ntmps99
  go_wp2
  go_ret
  exact ⟨rfl, by repeat (first | exact Below.refl _ _ | refine Below.alloc ?_ (by simp) _)⟩
 ·have hb : (kind == 3) = false := by simpa using h
  have h' := hid h
  clear h
  go_enter Tryz.func99, Tryz.ntmps99
  go_wp2
  go_ret
  exact ⟨rfl, by repeat (first | exact Below.refl _ _ | refine Below.alloc ?_ (by simp) _)⟩

theorem width_tok (at_ : Int) (t : Lx.Tk) (w : World) (hs : t.text.length + 2 ≤ maxLen) :
  Calls Tryz.prog 99 #[.agg #[.int .i64 t.kind, .int .i64 at_, .int .i64 t.n, .string (bs t.text)]] w (Gives (.int .i64 (t.width : Nat)) w) := by
 refine (width_any t.kind at_ t.n (bs t.text) w (by rw [bs_size]; exact hs)).mono ?_
 rintro e w' ⟨rfl, hb⟩
 refine ⟨ret_int ?_, hb⟩
 rw [bs_size]
 unfold Lx.Tk.width
 by_cases h : t.kind = 3
 ·rw [if_pos h, if_pos (by omega)]; rfl
 ·rw [if_neg h, if_neg (by omega)]

theorem rnext_err (t : ByteArray) (k e : Nat) (w : World) (hs : t.size ≤ maxLen) (hk : k < t.size) (h : Hid (Lx.nextTok t[k] (t.data.toList.drop (k + 1)) = .error e)) :
  Calls Tryz.prog 98 #[.string t, .int .i64 k] w (Gives (.tuple #[.agg #[.int .i64 0, .int .i64 0, .int .i64 0, .string ⟨#[]⟩], .int .i64 e]) w) := by
 have := rnext_any t k w hs hk
 rw [h.out] at this
 exact this

theorem rnext_ok (t : ByteArray) (k : Nat) (tk : Lx.Tk) (w : World) (hs : t.size ≤ maxLen) (hk : k < t.size) (h : Hid (Lx.nextTok t[k] (t.data.toList.drop (k + 1)) = .ok tk)) :
  Calls Tryz.prog 98 #[.string t, .int .i64 k] w (Gives (.tuple #[.agg #[.int .i64 tk.kind, .int .i64 k, .int .i64 tk.n, .string (bs tk.text)], .int .i64 0]) w) := by
 have := rnext_any t k w hs hk
 rw [h.out] at this
 exact this

set_option maxRecDepth 100000 in
set_option maxHeartbeats 1600000 in
theorem rlex_any (t : ByteArray) (w : World) (hs : t.size ≤ maxLen) :
  Calls Tryz.prog 64 #[.string t] w (LexPost w (Lx.lex t.data.toList)) := by
 obtain ⟨i0, hi, hz0, hz1, hz2⟩ := info_parts Tryz.infoTok
 have hs' := hs
 unfold maxLen at hs
 have hl : t.data.toList.length = t.size := by simp
 by_cases h20 : 20000 < t.size
 ·have hpost := hid (show Lx.lex t.data.toList = ([], 2, -1) by rw [Lx.lex, if_pos (by omega)])
  clear hl
  go_enter Tryz.func64, Tryz.ntmps64
  go_wp2
  go_ret3
  exact LexPost.nil hpost.out (Below.refl _ _)
 ·have h20' : t.size ≤ 20000 := by omega
  have S0 := Lx.St.start t.data.toList
  have hg0 : Lx.gapTo false t.data.toList 0 ≤ t.size := by have := Lx.gapTo_le false t.data.toList 0; omega
  go_enter Tryz.func64, Tryz.ntmps64
  go_wp2_with (go_at_call 97; refine (rgap_core t _ 0 _ hs' (Nat.zero_le _) rfl).mono ?_; rintro e w' ⟨rfl, rfl⟩)
  go_loopw [5, 6] (fun v i wr => ∃ (acc : List (Nat × Lx.Tk)) (j k : Nat), k ≤ t.size ∧ i = .int .i64 k ∧ Hid (Lx.St t.data.toList acc j k) ∧ wr.ownsRow w'.heap.size 116 4 v acc.length (tokCells acc) ∧ Below w'.heap.size w' wr) (fun _ i _ => t.size - (intOf i).toNat)
  case atStart => exact ⟨[], 0, _, hg0, rfl, S0, World.ownsRow_nil _ _ _ _, Below.refl _ _⟩
  case round =>
   obtain ⟨acc, j, k, hk, rfl, HS, hown, hb⟩ := hrel
   by_cases hlt : k < t.size
   ·have hl' : k < t.data.toList.length := by omega
    have hbig : w'.heap.size ≤ wr.heap.size := hb.size
    cases hn : Lx.nextTok t[k] (t.data.toList.drop (k + 1)) with
    | error e =>
     have H1 := hid hn
     have he := nextTok_err_pos hn
     have he' : ((e : Int) != 0) = true := by rw [bne_iff_ne]; omega
     have hpost := hid (lex_err (by omega) (HS.out.err hl' hn))
     clear hn hown S0 hg0
     go_wp2_with (go_at_call 98; refine (rnext_err t k e _ hs' hlt H1).mono ?_; rintro e w1 ⟨rfl, hb1⟩)
     go_ret3
     exact LexPost.nil hpost.out ((hb.trans (hb1.mono hbig)).alloc (by have := hb1.size; omega) _)
    | ok tk =>
     have H1 := hid hn
     have hwd := Lx.next_width hn
     have hfew := HS.out.few
     have htl : tk.text.length + 2 ≤ maxLen := by
      have h1 : tk.text.length ≤ tk.width := by unfold Lx.Tk.width; split <;> omega
      have h2 := hwd.2
      simp at h2
      unfold maxLen
      omega
     by_cases hc : acc.length = 5000
     ·have hpost := hid (lex_err (by omega) (HS.out.full hl' hn hc))
      have hc' : ((acc.length : Int) == 5000) = true := by rw [beq_iff_eq]; omega
      clear hn S0 hg0 hwd htl
      rcases hown.2 with ⟨rfl, hz⟩ | ⟨g, cap, cur, rfl, _⟩
      ·omega
      ·clear hown hc
       go_wp2_with (go_at_call 98; refine (rnext_ok t k tk _ hs' hlt H1).mono ?_; rintro e w1 ⟨rfl, hb1⟩)
       go_ret3
       exact LexPost.nil hpost.out ((hb.trans (hb1.mono hbig)).alloc (by have := hb1.size; omega) _)
     ·have hstep := HS.out.next hl' hn hc
      have hc' : ((acc.length : Int) == 5000) = false := by rw [Bool.eq_false_iff]; intro h; rw [beq_iff_eq] at h; omega
      have hstep1 := hid hstep.1
      have hw0 := hstep.2.1
      have hwl := hstep.2.2
      have hg1 := Lx.gapTo_ge false t.data.toList (k + tk.width) hwl
      have hg2 := Lx.gapTo_le false t.data.toList (k + tk.width)
      have hwl' : k + tk.width ≤ t.size := by omega
      clear hstep hn S0 hg0 hwd HS
      obtain ⟨a, cap, rfl⟩ := ownsRow_slice hown
      go_wp2_with (first
       | (go_at_call 98; refine (rnext_ok t k tk _ hs' hlt H1).mono ?_; rintro e w1 ⟨rfl, hb1⟩; have hown1 := ownsRow_below hown hb1; have hbz := hb1.size)
       | (go_at_call 99; refine (width_tok _ tk _ htl).mono ?_; rintro e w3 ⟨rfl, hb3⟩)
       | (go_at_call 97; refine (rgap_core t _ _ _ hs' hwl' rfl).mono ?_; rintro e w4 ⟨rfl, rfl⟩)
       | (at_builtin; refine wpList_append_own _ rfl _ _ 105 rfl w'.heap.size 116 i0 (.agg #[.int .i64 0, .int .i64 0, .int .i64 0, .string ⟨#[]⟩]) 4 40 Tryz.underlying105 hi hz0 hz1 hz2 rfl (by decide) _ _ _ rfl ((hown1.alloc _).alloc _) ⟨w1.heap.size + 1, 0, none⟩ 1 1 [.int .i64 tk.kind, .int .i64 k, .int .i64 tk.n, .string (bs tk.text)] rfl rfl ?c1 ?c2 ?c3 ?c4 ?c5 ?_))
      case c1 => exact cells_new (by simp)
      case c2 => intro x hx; simp at hx; rcases hx with rfl | rfl | rfl | rfl <;> rfl
      case c3 => unfold maxLen; omega
      case c4 => omega
      case c5 => simp; omega
      intro v' w2 hown2 hgrow2 _
      have hb2 : Below w'.heap.size w' w2 := Below.appended (((hb.trans (hb1.mono hbig)).alloc (by omega) _).alloc (by simp; omega) _) hgrow2 (by simp; omega) ((hown1.alloc _).alloc _)
      have hblk : w2.heap[w1.heap.size]? = some (.cells #[.int .i64 tk.kind, .int .i64 k, .int .i64 tk.n, .string (bs tk.text)] 116) := by
       rw [hgrow2.block w1.heap.size (by simp; omega) (ownsRow_lt hown1 (Nat.le_refl _)), Below.heap_alloc _ _ _ (by simp), heap_alloc_new]
      have d0 := cell_of_row w2 w1.heap.size 0 _ _ _ hblk
      have d1 := cell_of_row w2 w1.heap.size 1 _ _ _ hblk
      have d2 := cell_of_row w2 w1.heap.size 2 _ _ _ hblk
      have d3 := cell_of_row w2 w1.heap.size 3 _ _ _ hblk
      simp only [List.size_toArray, List.length_cons, List.length_nil, Nat.zero_add, Nat.reduceAdd, Nat.reduceLT, getElem?_pos, List.getElem_toArray, List.getElem_cons_zero, List.getElem_cons_succ] at d0 d1 d2 d3
      have hbz2 := hb2.size
      clear hown hown1 hgrow2 hblk H1 hi hz0 hz1 hz2
      go_wp2_with (first
       | (go_at_call 99; refine (width_tok _ tk _ htl).mono ?_; rintro e w3 ⟨rfl, hb3⟩)
       | (go_at_call 97; refine (rgap_core t _ _ _ hs' hwl' rfl).mono ?_; rintro e w4 ⟨rfl, rfl⟩))
      go_roundw
      case rel => exact ⟨acc ++ [(k, tk)], k + tk.width, Lx.gapTo false t.data.toList (k + tk.width), by omega, rfl, hstep1, by rw [tokCells_snoc, List.length_append]; exact ownsRow_below hown2 hb3, hb2.trans (hb3.mono (by omega))⟩
      case measure => simp [intOf]; omega
   ·have hpost := hid (lex_ok (by omega) (HS.out.done (by omega)))
    go_wp2
    go_ret3
    exact LexPost.mk hpost.out hown hb

end Go.Proofs.YtdchjacccmajcaaGreatDoor
