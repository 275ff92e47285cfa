/-
  What the scanner's 'next' returns at symbols, and at every byte. Conditions: the scanner lies in memory; the offset lies in the text, of at most 20000 bytes.
-/
import Derived.Test.YtidkmhokolknbaaGreatDoorZLexC
namespace Go.Proofs.YtidkmhokolknbaaGreatDoor
open Go.RowKit

theorem hasPrefix_yes (s : ByteArray) (w : World) (hm : s.size ≤ maxLen) (h : s.data.toList.head? = some 61) : Calls Tryz.prog 96 #[.string s, .string ⟨#[61]⟩] w (Same (.bool true) w) := by
  have := hasPrefix_any s w hm
  rwa [decide_eq_true h] at this
theorem hasPrefix_no (s : ByteArray) (w : World) (hm : s.size ≤ maxLen) (h : ¬ s.data.toList.head? = some 61) : Calls Tryz.prog 96 #[.string s, .string ⟨#[61]⟩] w (Same (.bool false) w) := by
  have := hasPrefix_any s w hm
  rwa [decide_eq_false h] at this

theorem extract_max {t : ByteArray} {a b : Nat} (h : t.size ≤ maxLen) : (t.extract a b).size ≤ maxLen := by
  rw [ByteArray.size_extract]; omega

theorem head_no {t : ByteArray} {k : Nat} (hne : ∀ hk1 : k + 1 < t.size, t[k + 1] ≠ 61) : ¬ (t.extract (k + 1) t.size).data.toList.head? = some 61 := by
  rw [extract_list, List.take_of_length_le (by simp)]
  intro hh
  by_cases h2 : k + 1 < t.data.toList.length
  · rw [Lx.head_drop h2] at hh
    simp only [Option.some.injEq] at hh
    exact hne (by simpa using h2) hh
  · rw [List.drop_eq_nil_of_le (by omega)] at hh
    cases hh

theorem cls_angle {c : UInt8} (h : Lx.isAngle c = true) : cls c = 8 ∧ Lx.isRest c = true := by
  have := all_bytes (fun c => !Lx.isAngle c || (cls c == 8 && Lx.isRest c)) (by decide +kernel) c
  simpa [h] using this
theorem cls_plain {c : UInt8} (h : Lx.isPlain c = true) : cls c = 9 ∧ Lx.isRest c = true ∧ Lx.isAngle c = false ∧ c ≠ 33 := by
  have := all_bytes (fun c => !Lx.isPlain c || (cls c == 9 && Lx.isRest c && !Lx.isAngle c && c != 33)) (by decide +kernel) c
  simp [h] at this
  exact ⟨this.1.1.1, this.1.1.2, this.1.2, this.2⟩
theorem cls_other {c : UInt8} (h : Lx.isRest c = true) (h1 : Lx.isAngle c = false) (h2 : Lx.isPlain c = false) (h3 : c ≠ 33) : cls c = 0 ∨ cls c = 1 ∨ cls c = 2 ∨ cls c = 5 := by
  have := all_bytes (fun c => !Lx.isRest c || Lx.isAngle c || Lx.isPlain c || c == 33 || cls c == 0 || cls c == 1 || cls c == 2 || cls c == 5) (by decide +kernel) c
  simpa [h, h1, h2, h3, or_assoc] using this

set_option maxRecDepth 100000 in
set_option maxHeartbeats 1600000 in
theorem next_plain (b : Nat) (t : ByteArray) (k : Nat) (w : World) (h : ScanAt w b t) (hk : k < t.size) (hm : t.size ≤ maxLen) (hc : Lx.isPlain t[k] = true) :
    Calls Tryz.prog 73 #[.pointer (some ⟨b, 0, none⟩), .int .i64 k] w (Gives (nextV k (Lx.nextTok t[k] (t.data.toList.drop (k + 1)))) w) := by
  have hm' := hm
  unfold maxLen at hm
  have hS := hid h
  have hlt := h.lt
  have htx := h.text
  have hl : k < t.data.toList.length := by simpa using hk
  obtain ⟨c1, c2, c3, c4⟩ := cls_plain hc
  have hcl : clsAt t k = 9 := by rw [clsAt_in hk, c1]; rfl
  have hfin := hid (Lx.next_one hl c2 (fun hh => (hh.elim c4 (fun h => absurd (show Lx.isAngle t[k] = true from h) (by rw [c3]; decide))).elim) (.inr hc))
  have hpre : Hid (∀ w', Calls Tryz.prog 96 #[.string t, .string ⟨#[61]⟩] w' (Same (.bool (decide (t.data.toList.head? = some 61))) w')) := fun w' => hasPrefix_any _ _ hm'
  clear h hc c1 c2 c3 c4
  go_enter Tryz.func73, Tryz.ntmps73
  go_wp2_with (first
    | (go_at_call 92; refine (at_any b t _ _ (by repeat (first | exact hS.out | refine ScanAt.alloc ?_ _ | refine ScanAt.drewN ?_ _)) (by omega) hm').mono ?_; rintro e w' ⟨rfl, q, rfl⟩)
    | (go_at_call 96; refine (hpre.out _).mono ?_; rintro e w' ⟨rfl, rfl⟩))
  refine post_cell_tmp2 rfl (v := .agg #[.int .i64 4, .int .i64 k, .int .i64 0, .string (t.extract k (k + 1))]) (x := .int .i64 ((k : Int) + 1)) (y := .int .i64 0) rfl (by simp [go_sem]) rfl rfl rfl ?_
  refine next_done hfin.out ?_ (by repeat (first | exact Below.refl _ _ | refine Below.alloc ?_ (by first | exact Nat.le_refl _ | (simp; done) | (simp; omega) | omega) _ | refine below_drewN ?_ _ | refine Below.drew ?_ | assumption))
  exact nextV_ok (end_ := k + 1) (by rw [extract_bs, Nat.add_sub_cancel_left]) (by simp [Lx.Tk.width]; omega)

set_option maxRecDepth 100000 in
set_option maxHeartbeats 1600000 in
theorem next_angle_two (b : Nat) (t : ByteArray) (k : Nat) (w : World) (h : ScanAt w b t) (hk : k < t.size) (hm : t.size ≤ maxLen) (hc : Lx.isAngle t[k] = true) (hk1 : k + 1 < t.size) (he : t[k + 1] = 61) :
    Calls Tryz.prog 73 #[.pointer (some ⟨b, 0, none⟩), .int .i64 k] w (Gives (nextV k (Lx.nextTok t[k] (t.data.toList.drop (k + 1)))) w) := by
  have hm' := hm
  unfold maxLen at hm
  have hS := hid h
  have hlt := h.lt
  have htx := h.text
  have hl : k < t.data.toList.length := by simpa using hk
  obtain ⟨c1, c2⟩ := cls_angle hc
  have hcl : clsAt t k = 8 := by rw [clsAt_in hk, c1]; rfl
  have hfin := hid (Lx.next_two (by simpa using hk1) c2 (.inr hc) he)
  have hpre : Hid (∀ w', Calls Tryz.prog 96 #[.string (t.extract (k + 1) t.size), .string ⟨#[61]⟩] w' (Same (.bool true) w')) := fun w' => hasPrefix_yes _ _ (extract_max hm') (by rw [extract_list, List.take_of_length_le (by simp), Lx.head_drop (by simpa using hk1)]; exact congrArg some he)
  clear h hc c1 c2 he
  go_enter Tryz.func73, Tryz.ntmps73
  go_wp2_with (first
    | (go_at_call 92; refine (at_any b t _ _ (by repeat (first | exact hS.out | refine ScanAt.alloc ?_ _ | refine ScanAt.drewN ?_ _)) (by omega) hm').mono ?_; rintro e w' ⟨rfl, q, rfl⟩)
    | (go_at_call 96; refine (hpre.out _).mono ?_; rintro e w' ⟨rfl, rfl⟩))
  refine post_cell_tmp2 rfl (v := .agg #[.int .i64 4, .int .i64 k, .int .i64 0, .string (t.extract k (k + 2))]) (x := .int .i64 ((k : Int) + 2)) (y := .int .i64 0) rfl (by simp [go_sem]) rfl rfl rfl ?_
  refine next_done hfin.out ?_ (by repeat (first | exact Below.refl _ _ | refine Below.alloc ?_ (by first | exact Nat.le_refl _ | (simp; done) | (simp; omega) | omega) _ | refine below_drewN ?_ _ | refine Below.drew ?_ | assumption))
  exact nextV_ok (end_ := k + 2) (by rw [extract_bs, Nat.add_sub_cancel_left]) (by simp [Lx.Tk.width]; omega)

set_option maxRecDepth 100000 in
set_option maxHeartbeats 1600000 in
theorem next_angle_one (b : Nat) (t : ByteArray) (k : Nat) (w : World) (h : ScanAt w b t) (hk : k < t.size) (hm : t.size ≤ maxLen) (hc : Lx.isAngle t[k] = true) (hne : ∀ hk1 : k + 1 < t.size, t[k + 1] ≠ 61) :
    Calls Tryz.prog 73 #[.pointer (some ⟨b, 0, none⟩), .int .i64 k] w (Gives (nextV k (Lx.nextTok t[k] (t.data.toList.drop (k + 1)))) w) := by
  have hm' := hm
  unfold maxLen at hm
  have hS := hid h
  have hlt := h.lt
  have htx := h.text
  have hl : k < t.data.toList.length := by simpa using hk
  obtain ⟨c1, c2⟩ := cls_angle hc
  have hcl : clsAt t k = 8 := by rw [clsAt_in hk, c1]; rfl
  have hfin := hid (Lx.next_one hl c2 (fun _ hh => hne (by simpa using hh)) (.inl hc))
  have hpre : Hid (∀ w', Calls Tryz.prog 96 #[.string (t.extract (k + 1) t.size), .string ⟨#[61]⟩] w' (Same (.bool false) w')) := fun w' => hasPrefix_no _ _ (extract_max hm') (head_no hne)
  clear h hc c1 c2 hne
  go_enter Tryz.func73, Tryz.ntmps73
  go_wp2_with (first
    | (go_at_call 92; refine (at_any b t _ _ (by repeat (first | exact hS.out | refine ScanAt.alloc ?_ _ | refine ScanAt.drewN ?_ _)) (by omega) hm').mono ?_; rintro e w' ⟨rfl, q, rfl⟩)
    | (go_at_call 96; refine (hpre.out _).mono ?_; rintro e w' ⟨rfl, rfl⟩))
  refine post_cell_tmp2 rfl (v := .agg #[.int .i64 4, .int .i64 k, .int .i64 0, .string (t.extract k (k + 1))]) (x := .int .i64 ((k : Int) + 1)) (y := .int .i64 0) rfl (by simp [go_sem]) rfl rfl rfl ?_
  refine next_done hfin.out ?_ (by repeat (first | exact Below.refl _ _ | refine Below.alloc ?_ (by first | exact Nat.le_refl _ | (simp; done) | (simp; omega) | omega) _ | refine below_drewN ?_ _ | refine Below.drew ?_ | assumption))
  exact nextV_ok (end_ := k + 1) (by rw [extract_bs, Nat.add_sub_cancel_left]) (by simp [Lx.Tk.width]; omega)

set_option maxRecDepth 100000 in
set_option maxHeartbeats 1600000 in
theorem next_mark_two (b : Nat) (t : ByteArray) (k : Nat) (w : World) (h : ScanAt w b t) (hk : k < t.size) (hm : t.size ≤ maxLen) (hc : t[k] = 33) (hk1 : k + 1 < t.size) (he : t[k + 1] = 61) :
    Calls Tryz.prog 73 #[.pointer (some ⟨b, 0, none⟩), .int .i64 k] w (Gives (nextV k (Lx.nextTok t[k] (t.data.toList.drop (k + 1)))) w) := by
  have hm' := hm
  unfold maxLen at hm
  have hS := hid h
  have hlt := h.lt
  have htx := h.text
  have hl : k < t.data.toList.length := by simpa using hk
  have hcl : clsAt t k = 7 := by rw [clsAt_in hk, hc]; decide
  have hfin := hid (Lx.next_two (by simpa using hk1) (by show Lx.isRest t[k] = true; rw [hc]; decide) (.inl hc) he)
  have hpre : Hid (∀ w', Calls Tryz.prog 96 #[.string (t.extract (k + 1) t.size), .string ⟨#[61]⟩] w' (Same (.bool true) w')) := fun w' => hasPrefix_yes _ _ (extract_max hm') (by rw [extract_list, List.take_of_length_le (by simp), Lx.head_drop (by simpa using hk1)]; exact congrArg some he)
  clear h hc he
  go_enter Tryz.func73, Tryz.ntmps73
  go_wp2_with (first
    | (go_at_call 92; refine (at_any b t _ _ (by repeat (first | exact hS.out | refine ScanAt.alloc ?_ _ | refine ScanAt.drewN ?_ _)) (by omega) hm').mono ?_; rintro e w' ⟨rfl, q, rfl⟩)
    | (go_at_call 96; refine (hpre.out _).mono ?_; rintro e w' ⟨rfl, rfl⟩))
  refine post_cell_tmp2 rfl (v := .agg #[.int .i64 4, .int .i64 k, .int .i64 0, .string (t.extract k (k + 2))]) (x := .int .i64 ((k : Int) + 2)) (y := .int .i64 0) rfl (by simp [go_sem]) rfl rfl rfl ?_
  refine next_done hfin.out ?_ (by repeat (first | exact Below.refl _ _ | refine Below.alloc ?_ (by first | exact Nat.le_refl _ | (simp; done) | (simp; omega) | omega) _ | refine below_drewN ?_ _ | refine Below.drew ?_ | assumption))
  exact nextV_ok (end_ := k + 2) (by rw [extract_bs, Nat.add_sub_cancel_left]) (by simp [Lx.Tk.width]; omega)

set_option maxRecDepth 100000 in
set_option maxHeartbeats 1600000 in
theorem next_mark_bad (b : Nat) (t : ByteArray) (k : Nat) (w : World) (h : ScanAt w b t) (hk : k < t.size) (hm : t.size ≤ maxLen) (hc : t[k] = 33) (hne : ∀ hk1 : k + 1 < t.size, t[k + 1] ≠ 61) :
    Calls Tryz.prog 73 #[.pointer (some ⟨b, 0, none⟩), .int .i64 k] w (Gives (nextV k (Lx.nextTok t[k] (t.data.toList.drop (k + 1)))) w) := by
  have hm' := hm
  unfold maxLen at hm
  have hS := hid h
  have hlt := h.lt
  have htx := h.text
  have hl : k < t.data.toList.length := by simpa using hk
  have hcl : clsAt t k = 7 := by rw [clsAt_in hk, hc]; decide
  have hfin := hid (Lx.next_bad hl (by show Lx.isRest t[k] = true; rw [hc]; decide) (fun _ hh => hne (by simpa using hh)) (by show Lx.isAngle t[k] = false ∧ Lx.isPlain t[k] = false; rw [hc]; decide))
  have hpre : Hid (∀ w', Calls Tryz.prog 96 #[.string (t.extract (k + 1) t.size), .string ⟨#[61]⟩] w' (Same (.bool false) w')) := fun w' => hasPrefix_no _ _ (extract_max hm') (head_no hne)
  clear h hc hne
  go_enter Tryz.func73, Tryz.ntmps73
  go_wp2_with (first
    | (go_at_call 92; refine (at_any b t _ _ (by repeat (first | exact hS.out | refine ScanAt.alloc ?_ _ | refine ScanAt.drewN ?_ _)) (by omega) hm').mono ?_; rintro e w' ⟨rfl, q, rfl⟩)
    | (go_at_call 96; refine (hpre.out _).mono ?_; rintro e w' ⟨rfl, rfl⟩))
  refine post_cell_tmp2 rfl (v := tok0) (x := .int .i64 0) (y := .int .i64 3) rfl (by simp [go_sem, tok0]) rfl rfl rfl ?_
  exact next_done hfin.out rfl (by repeat (first | exact Below.refl _ _ | refine Below.alloc ?_ (by first | exact Nat.le_refl _ | (simp; done) | (simp; omega) | omega) _ | refine below_drewN ?_ _ | refine Below.drew ?_ | assumption))

set_option maxRecDepth 100000 in
set_option maxHeartbeats 1600000 in
theorem next_other (b : Nat) (t : ByteArray) (k : Nat) (w : World) (h : ScanAt w b t) (hk : k < t.size) (hm : t.size ≤ maxLen) (hr : Lx.isRest t[k] = true) (h1 : Lx.isAngle t[k] = false) (h2 : Lx.isPlain t[k] = false) (h3 : t[k] ≠ 33) :
    Calls Tryz.prog 73 #[.pointer (some ⟨b, 0, none⟩), .int .i64 k] w (Gives (nextV k (Lx.nextTok t[k] (t.data.toList.drop (k + 1)))) w) := by
  have hm' := hm
  unfold maxLen at hm
  have hS := hid h
  have hlt := h.lt
  have htx := h.text
  have hl : k < t.data.toList.length := by simpa using hk
  have hcl : clsAt t k = 0 ∨ clsAt t k = 1 ∨ clsAt t k = 2 ∨ clsAt t k = 5 := by
    rw [clsAt_in hk]
    rcases cls_other hr h1 h2 h3 with h | h | h | h <;> rw [h] <;> decide
  have hfin := hid (Lx.next_bad hl hr (fun hh => (hh.elim h3 (fun h => absurd (show Lx.isAngle t[k] = true from h) (by rw [h1]; decide))).elim) ⟨h1, h2⟩)
  have hpre : Hid (∀ w', Calls Tryz.prog 96 #[.string t, .string ⟨#[61]⟩] w' (Same (.bool (decide (t.data.toList.head? = some 61))) w')) := fun w' => hasPrefix_any _ _ hm'
  clear h hr h1 h2 h3
  rcases hcl with hcl | hcl | hcl | hcl
  all_goals
    go_enter Tryz.func73, Tryz.ntmps73
    go_wp2_with (first
      | (go_at_call 92; refine (at_any b t _ _ (by repeat (first | exact hS.out | refine ScanAt.alloc ?_ _ | refine ScanAt.drewN ?_ _)) (by omega) hm').mono ?_; rintro e w' ⟨rfl, q, rfl⟩)
      | (go_at_call 96; refine (hpre.out _).mono ?_; rintro e w' ⟨rfl, rfl⟩))
    refine post_cell_tmp2 rfl (v := tok0) (x := .int .i64 0) (y := .int .i64 3) rfl (by simp [go_sem, tok0]) rfl rfl rfl ?_
    exact next_done hfin.out rfl (by repeat (first | exact Below.refl _ _ | refine Below.alloc ?_ (by first | exact Nat.le_refl _ | (simp; done) | (simp; omega) | omega) _ | refine below_drewN ?_ _ | refine Below.drew ?_ | assumption))

/-- 'next' of the program at every offset in the text -/
theorem next_any (b : Nat) (t : ByteArray) (k : Nat) (w : World) (h : ScanAt w b t) (hk : k < t.size) (hm : t.size ≤ 20000) :
    Calls Tryz.prog 73 #[.pointer (some ⟨b, 0, none⟩), .int .i64 k] w (Gives (nextV k (Lx.nextTok t[k] (t.data.toList.drop (k + 1)))) w) := by
  have hm' : t.size ≤ maxLen := by unfold maxLen; omega
  by_cases h1 : Lx.isLetter t[k] = true
  · exact next_letter b t k w h hk hm' h1
  by_cases h2 : Lx.isDigit t[k] = true
  · exact next_digit b t k w h hk hm' h2
  by_cases h3 : t[k] = 34
  · exact next_quote b t k w h hk hm h3
  have hr : Lx.isRest t[k] = true := by simp [Lx.isRest, h1, h2, h3]
  by_cases h4 : Lx.isPlain t[k] = true
  · exact next_plain b t k w h hk hm' h4
  by_cases h5 : Lx.isAngle t[k] = true
  · by_cases h6 : ∃ hk1 : k + 1 < t.size, t[k + 1] = 61
    · obtain ⟨hk1, he⟩ := h6
      exact next_angle_two b t k w h hk hm' h5 hk1 he
    · exact next_angle_one b t k w h hk hm' h5 (fun hk1 he => h6 ⟨hk1, he⟩)
  by_cases h7 : t[k] = 33
  · by_cases h6 : ∃ hk1 : k + 1 < t.size, t[k + 1] = 61
    · obtain ⟨hk1, he⟩ := h6
      exact next_mark_two b t k w h hk hm' h7 hk1 he
    · exact next_mark_bad b t k w h hk hm' h7 (fun hk1 he => h6 ⟨hk1, he⟩)
  exact next_other b t k w h hk hm' hr (Bool.eq_false_iff.2 h5) (Bool.eq_false_iff.2 h4) h7

end Go.Proofs.YtidkmhokolknbaaGreatDoor
