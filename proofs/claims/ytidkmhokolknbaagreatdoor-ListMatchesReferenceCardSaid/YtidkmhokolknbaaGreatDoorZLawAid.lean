/-
  The law file's helpers: written, Gaps, all; texts joined. Conditions: lengths within Go's own bound.
-/
import Derived.Test.YtidkmhokolknbaaGreatDoorZTok
import Derived.Test.YtidkmhokolknbaaGreatDoorZLexMore
namespace Go.Proofs.YtidkmhokolknbaaGreatDoor
open Go.RowKit

theorem app_list (a b : ByteArray) : (a ++ b).data.toList = a.data.toList ++ b.data.toList := by simp [ByteArray.data_append]

theorem gapTo_zero (l : List UInt8) : (Lx.gapTo false l 0 = l.length) ↔ Lx.skip false l = [] := by
  have h := Lx.skip_length false l
  unfold Lx.gapTo
  rw [List.drop_zero]
  constructor
  · intro e
    exact List.length_eq_zero_iff.1 (by omega)
  · intro e; rw [e]; rfl

/-- are these bytes gaps? -/
def gapsB (t : ByteArray) : Bool := decide (Lx.skip false t.data.toList = [])

/-- is this a name? -/
def nameB (t : ByteArray) : Bool := t.data.toList.all Lx.isWord && decide (0 < t.size) && decide (t.size ≤ 24) && t.data.toList.head?.any Lx.isLetter

theorem all_snoc {t : ByteArray} {k : Nat} (hlt : k < t.size) : (t.data.toList.take (k + 1)).all Lx.isWord = ((t.data.toList.take k).all Lx.isWord && Lx.isWord t[k]) := by
  rw [List.take_succ_eq_append_getElem (by simpa using hlt), List.all_append]
  simp
  rfl

theorem head_at {t : ByteArray} (h : 0 < t.size) : t.data.toList.head? = some t[0] := by
  have h1 : 0 < t.data.toList.length := by simpa using h
  have := Lx.head_drop h1
  rw [List.drop_zero] at this
  exact this

set_option maxRecDepth 100000 in
set_option maxHeartbeats 800000 in
theorem name_any (t : ByteArray) (w : World) (hs : t.size ≤ maxLen) : Calls Tryz.prog 59 #[.string t] w (Same (.bool (nameB t)) w) := by
  unfold maxLen at hs
  go_enter Tryz.func59, Tryz.ntmps59
  go_wp2
  go_loop [3] (fun i => ∃ k : Nat, k ≤ t.size ∧ i = .int .i64 k ∧ Hid ((t.data.toList.take k).all Lx.isWord = true)) (fun i => t.size - (intOf i).toNat)
  case atStart => exact ⟨0, Nat.zero_le _, rfl, by simp [Hid]⟩
  case round =>
    obtain ⟨k, hk, rfl, hn⟩ := hrel
    by_cases hlt : k < t.size
    · cases hw : Lx.isWord t[k] with
      | true =>
        have H2 := hid (show (t.data.toList.take (k + 1)).all Lx.isWord = true by rw [all_snoc hlt, hn.out, hw]; rfl)
        go_wp2_with (go_at_call 83; refine (word_any _ _).mono ?_; rintro e w' ⟨rfl, rfl⟩)
        go_round
        case rel => exact ⟨k + 1, by omega, by go_num, H2⟩
        case measure => simp [intOf]; omega
      | false =>
        have H2 := hid (show nameB t = false by
          have : t.data.toList.all Lx.isWord = false := by
            rw [Bool.eq_false_iff]
            intro h
            have hm : t[k] ∈ t.data.toList := by
              have e : t[k] = t.data.toList[k]'(by simpa using hlt) := rfl
              rw [e]; exact List.getElem_mem _
            rw [List.all_eq_true.1 h _ hm] at hw
            cases hw
          simp [nameB, this])
        go_wp2_with (go_at_call 83; refine (word_any _ _).mono ?_; rintro e w' ⟨rfl, rfl⟩)
        go_ret
        exact ⟨ret_bool H2.out.symm, rfl⟩
    · have hall := hid (show t.data.toList.all Lx.isWord = true by have := hn.out; rwa [List.take_of_length_le (by simp; omega)] at this)
      by_cases h0 : 0 < t.size
      · by_cases h24 : t.size ≤ 24
        · have H2 := hid (show nameB t = Lx.isLetter t[0] by simp [nameB, hall.out, h0, h24, head_at h0])
          go_wp2_with (go_at_call 84; refine (letter_any _ _).mono ?_; rintro e w' ⟨rfl, rfl⟩)
          go_ret
          exact ⟨ret_bool H2.out.symm, rfl⟩
        · have H2 := hid (show nameB t = false by simp [nameB, h24])
          go_wp2
          go_ret
          exact ⟨ret_bool H2.out.symm, rfl⟩
      · have H2 := hid (show nameB t = false by simp [nameB, h0])
        go_wp2
        go_ret
        exact ⟨ret_bool H2.out.symm, rfl⟩

theorem digits10 {n : Nat} (h : n < 10) : (⟨#[48, 49, 50, 51, 52, 53, 54, 55, 56, 57]⟩ : ByteArray).extract n (n + 1) = bs (Lx.dec n) := by
  refine bs_ext ?_
  rw [extract_list, Lx.dec_small h]
  match n, h with
  | 0, _ => rfl
  | 1, _ => rfl
  | 2, _ => rfl
  | 3, _ => rfl
  | 4, _ => rfl
  | 5, _ => rfl
  | 6, _ => rfl
  | 7, _ => rfl
  | 8, _ => rfl
  | 9, _ => rfl

theorem dec_size {n : Nat} (h : n < 10000000000000) : (Lx.dec n).length ≤ 13 := (Lx.dec_facts n).2.2.2 13 (by decide) (by simpa using h)

/-- the text of tokens, one blank after each -/
theorem allOf_take {l : List (Nat × Lx.Tk)} {k : Nat} {p : Nat × Lx.Tk} (h : l[k]? = some p) : Lx.allOf (l.take (k + 1)) = Lx.allOf (l.take k) ++ (p.2.written ++ [32]) := by
  obtain ⟨hk, he⟩ := List.getElem?_eq_some_iff.1 h
  rw [List.take_succ_eq_append_getElem hk, he]
  simp [Lx.allOf]

theorem allOf_le {l : List (Nat × Lx.Tk)} (k : Nat) : (Lx.allOf (l.take k)).length ≤ (Lx.allOf l).length := by
  have : Lx.allOf l = Lx.allOf (l.take k) ++ Lx.allOf (l.drop k) := by
    conv => lhs; rw [← List.take_append_drop k l]
    simp only [Lx.allOf, List.flatMap_append]
  rw [this, List.length_append]
  omega

end Go.Proofs.YtidkmhokolknbaaGreatDoor
