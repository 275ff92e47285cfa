/-
  The law file's helpers: written, Gaps, all; texts joined. Conditions: lengths within Go's own bound.
-/
import Derived.Test.YtlojckkccgpabaaDoorZTok
import Derived.Test.YtlojckkccgpabaaDoorZLexMore
namespace Go.Proofs.YtlojckkccgpabaaDoor
open Go.RowKit

theorem app_list (a b : ByteArray) : (a ++ b).data.toList = a.data.toList ++ b.data.toList := by simp [ByteArray.data_append]

set_option maxRecDepth 100000 in
theorem written_tok (at_ : Int) (t : Lx.Tk) (w : World) (hs : t.text.length + 2 ≤ maxLen) :
    Calls Tryd.prog 16 #[.agg #[.int .i64 t.kind, .int .i64 at_, .int .i64 t.n, .string (bs t.text)]] w (Gives (.string (bs t.written)) w) := by
  have hz : (bs t.text).size + 2 ≤ maxLen := by rw [bs_size]; exact hs
  unfold maxLen at hz
  by_cases h : t.kind = 3
  · have hk : (((t.kind : Nat) : Int) == 3) = true := by rw [h]; rfl
    have he := hid (show (⟨#[34]⟩ : ByteArray) ++ bs t.text ++ ⟨#[34]⟩ = bs t.written from bs_ext (by
      rw [app_list, app_list, bs_list]; simp [Lx.Tk.written, h]))
    clear h
    go_enter Tryd.func16, Tryd.ntmps16
    go_wp2
    go_ret
    exact ⟨ret_str he.out, by repeat (first | exact Below.refl _ _ | refine Below.alloc ?_ (by simp) _)⟩
  · have hk : (((t.kind : Nat) : Int) == 3) = false := by rw [beq_eq_false_iff_ne]; omega
    have he := hid (show t.written = t.text by simp [Lx.Tk.written, h])
    clear h
    go_enter Tryd.func16, Tryd.ntmps16
    go_wp2
    go_ret
    exact ⟨by rw [he.out]; rfl, by repeat (first | exact Below.refl _ _ | refine Below.alloc ?_ (by simp) _)⟩

theorem gapTo_zero (l : List UInt8) : (Lx.gapTo false l 0 = l.length) ↔ Lx.skip false l = [] := by
  have h := Lx.skip_length false l
  unfold Lx.gapTo
  rw [List.drop_zero]
  constructor
  · intro e
    exact List.length_eq_zero_iff.1 (by omega)
  · intro e; rw [e]; rfl

/-- are these bytes gaps? -/
def gapsB (t : ByteArray) : Bool := decide (Lx.skip false t.data.toList = [])

set_option maxRecDepth 100000 in
theorem gaps_any (t : ByteArray) (w : World) (hs : t.size ≤ maxLen) : Calls Tryd.prog 17 #[.string t] w (Same (.bool (gapsB t)) w) := by
  go_enter Tryd.func17, Tryd.ntmps17
  go_wp2_with (go_at_call 25; refine (rgap_core _ _ 0 _ hs (Nat.zero_le _) rfl).mono ?_; rintro e w' ⟨rfl, rfl⟩)
  go_ret
  refine ⟨ret_bool ?_, rfl⟩
  unfold gapsB
  rw [Bool.eq_iff_iff, decide_eq_true_eq, ← gapTo_zero, beq_iff_eq]
  have : t.data.toList.length = t.size := by simp
  omega

/-- is this a name? -/
def nameB (t : ByteArray) : Bool := t.data.toList.all Lx.isWord && decide (0 < t.size) && decide (t.size ≤ 24) && t.data.toList.head?.any Lx.isLetter

theorem all_snoc {t : ByteArray} {k : Nat} (hlt : k < t.size) : (t.data.toList.take (k + 1)).all Lx.isWord = ((t.data.toList.take k).all Lx.isWord && Lx.isWord t[k]) := by
  rw [List.take_succ_eq_append_getElem (by simpa using hlt), List.all_append]
  simp
  rfl

theorem head_at {t : ByteArray} (h : 0 < t.size) : t.data.toList.head? = some t[0] := by
  have h1 : 0 < t.data.toList.length := by simpa using h
  have := Lx.head_drop h1
  rw [List.drop_zero] at this
  exact this

set_option maxRecDepth 100000 in
set_option maxHeartbeats 800000 in
theorem name_any (t : ByteArray) (w : World) (hs : t.size ≤ maxLen) : Calls Tryd.prog 20 #[.string t] w (Same (.bool (nameB t)) w) := by
  unfold maxLen at hs
  go_enter Tryd.func20, Tryd.ntmps20
  go_wp2
  go_loop [3] (fun i => ∃ k : Nat, k ≤ t.size ∧ i = .int .i64 k ∧ Hid ((t.data.toList.take k).all Lx.isWord = true)) (fun i => t.size - (intOf i).toNat)
  case atStart => exact ⟨0, Nat.zero_le _, rfl, by simp [Hid]⟩
  case round =>
    obtain ⟨k, hk, rfl, hn⟩ := hrel
    by_cases hlt : k < t.size
    · cases hw : Lx.isWord t[k] with
      | true =>
        have H2 := hid (show (t.data.toList.take (k + 1)).all Lx.isWord = true by rw [all_snoc hlt, hn.out, hw]; rfl)
        go_wp2_with (go_at_call 27; refine (word_any _ _).mono ?_; rintro e w' ⟨rfl, rfl⟩)
        go_round
        case rel => exact ⟨k + 1, by omega, by go_num, H2⟩
        case measure => simp [intOf]; omega
      | false =>
        have H2 := hid (show nameB t = false by
          have : t.data.toList.all Lx.isWord = false := by
            rw [Bool.eq_false_iff]
            intro h
            have hm : t[k] ∈ t.data.toList := by
              have e : t[k] = t.data.toList[k]'(by simpa using hlt) := rfl
              rw [e]; exact List.getElem_mem _
            rw [List.all_eq_true.1 h _ hm] at hw
            cases hw
          simp [nameB, this])
        go_wp2_with (go_at_call 27; refine (word_any _ _).mono ?_; rintro e w' ⟨rfl, rfl⟩)
        go_ret
        exact ⟨ret_bool H2.out.symm, rfl⟩
    · have hall := hid (show t.data.toList.all Lx.isWord = true by have := hn.out; rwa [List.take_of_length_le (by simp; omega)] at this)
      by_cases h0 : 0 < t.size
      · by_cases h24 : t.size ≤ 24
        · have H2 := hid (show nameB t = Lx.isLetter t[0] by simp [nameB, hall.out, h0, h24, head_at h0])
          go_wp2_with (go_at_call 28; refine (letter_any _ _).mono ?_; rintro e w' ⟨rfl, rfl⟩)
          go_ret
          exact ⟨ret_bool H2.out.symm, rfl⟩
        · have H2 := hid (show nameB t = false by simp [nameB, h24])
          go_wp2
          go_ret
          exact ⟨ret_bool H2.out.symm, rfl⟩
      · have H2 := hid (show nameB t = false by simp [nameB, h0])
        go_wp2
        go_ret
        exact ⟨ret_bool H2.out.symm, rfl⟩

theorem digits10 {n : Nat} (h : n < 10) : (⟨#[48, 49, 50, 51, 52, 53, 54, 55, 56, 57]⟩ : ByteArray).extract n (n + 1) = bs (Lx.dec n) := by
  refine bs_ext ?_
  rw [extract_list, Lx.dec_small h]
  match n, h with
  | 0, _ => rfl
  | 1, _ => rfl
  | 2, _ => rfl
  | 3, _ => rfl
  | 4, _ => rfl
  | 5, _ => rfl
  | 6, _ => rfl
  | 7, _ => rfl
  | 8, _ => rfl
  | 9, _ => rfl

theorem dec_size {n : Nat} (h : n < 10000000000000) : (Lx.dec n).length ≤ 13 := (Lx.dec_facts n).2.2.2 13 (by decide) (by simpa using h)

set_option maxRecDepth 100000 in
set_option maxHeartbeats 800000 in
theorem decimal_any (n : Nat) : ∀ (w : World), n < 10000000000000 → Calls Tryd.prog 21 #[.int .i64 n] w (Same (.string (bs (Lx.dec n))) w) := by
  induction n using Nat.strongRecOn with
  | _ n ih =>
    intro w hn
    by_cases h : n < 10
    · have he := hid (digits10 h)
      have hz : (n : Int) < 10 := by omega
      go_enter Tryd.func21, Tryd.ntmps21
      go_wp2
      go_ret
      exact ⟨ret_str he.out, rfl⟩
    · have hq : n / 10 < 10000000000000 := by omega
      have hr : n % 10 < 10000000000000 := by omega
      have i1 := ih (n / 10) (by omega) w hq
      have i2 := ih (n % 10) (by omega) w hr
      rw [show ((n / 10 : Nat) : Int) = (n : Int) / 10 by omega] at i1
      rw [show ((n % 10 : Nat) : Int) = (n : Int) % 10 by omega] at i2
      have j1 := hid i1
      have j2 := hid i2
      have hz : ¬ (n : Int) < 10 := by omega
      have s1 : (bs (Lx.dec (n / 10))).size ≤ 13 := by rw [bs_size]; exact dec_size hq
      have s2 : (bs (Lx.dec (n % 10))).size ≤ 13 := by rw [bs_size]; exact dec_size hr
      have he := hid (show bs (Lx.dec (n / 10)) ++ bs (Lx.dec (n % 10)) = bs (Lx.dec n) from bs_ext (by rw [app_list, bs_list, bs_list, Lx.dec_big h]))
      clear ih i1 i2 hq hr
      go_enter Tryd.func21, Tryd.ntmps21
      go_wp2_with fail
      refine (j1.out).mono ?_
      rintro e w' ⟨rfl, hw1⟩
      subst hw1
      go_wp2_with fail
      refine (j2.out).mono ?_
      rintro e w' ⟨rfl, hw2⟩
      subst hw2
      go_wp2
      go_ret
      exact ⟨ret_str he.out, rfl⟩

/-- the text of tokens, one blank after each -/
theorem allOf_take {l : List (Nat × Lx.Tk)} {k : Nat} {p : Nat × Lx.Tk} (h : l[k]? = some p) : Lx.allOf (l.take (k + 1)) = Lx.allOf (l.take k) ++ (p.2.written ++ [32]) := by
  obtain ⟨hk, he⟩ := List.getElem?_eq_some_iff.1 h
  rw [List.take_succ_eq_append_getElem hk, he]
  simp [Lx.allOf]

theorem allOf_le {l : List (Nat × Lx.Tk)} (k : Nat) : (Lx.allOf (l.take k)).length ≤ (Lx.allOf l).length := by
  have : Lx.allOf l = Lx.allOf (l.take k) ++ Lx.allOf (l.drop k) := by
    conv => lhs; rw [← List.take_append_drop k l]
    simp only [Lx.allOf, List.flatMap_append]
  rw [this, List.length_append]
  omega

set_option maxRecDepth 100000 in
set_option maxHeartbeats 800000 in
theorem all_row (g o cap : Nat) (l : List (Nat × Lx.Tk)) (w : World) (hr : Hid (TokRow w g o l)) (hm : l.length ≤ maxLen) (hl : (Lx.allOf l).length ≤ 1000000) :
    Calls Tryd.prog 18 #[.slice (some ⟨g, o, none⟩) l.length cap] w (Gives (.string (bs (Lx.allOf l))) w) := by
  unfold maxLen at hm
  go_enter Tryd.func18, Tryd.ntmps18
  go_wp2
  go_loopw [3, 4] (fun s i wr => ∃ k : Nat, k ≤ l.length ∧ i = .int .i64 k ∧ s = .string (bs (Lx.allOf (l.take k))) ∧ Below w.heap.size w wr) (fun _ i _ => l.length - (intOf i).toNat)
  case atStart => exact ⟨0, Nat.zero_le _, rfl, rfl, Below.refl _ _⟩
  case round =>
    obtain ⟨k, hk, rfl, rfl, hbr⟩ := hrel
    by_cases hlt : k < l.length
    · obtain ⟨p, hp⟩ : ∃ p, l[k]? = some p := ⟨_, List.getElem?_eq_getElem hlt⟩
      obtain ⟨a0, a1, a2, a3⟩ := (hr.out.below hbr).2 k p hp
      have hg1 := (hr.out.below hbr).1
      have hk0 : (0 : Int) ≤ (k : Int) := by omega
      have hk1 : (k : Int) < (l.length : Int) := by omega
      have hstep := allOf_take hp
      have hle := allOf_le (l := l) (k + 1)
      have hle2 := hle
      rw [hstep] at hle2
      simp only [List.length_append, List.length_cons, List.length_nil, Lx.written_length] at hle2
      have hwl : p.2.text.length ≤ p.2.width := by unfold Lx.Tk.width; split <;> omega
      have htl : p.2.text.length + 2 ≤ maxLen := by unfold maxLen; omega
      have hb1 : (bs p.2.written).size + 1 ≤ 1000000 := by rw [bs_size, Lx.written_length]; omega
      have hb2 : (bs (Lx.allOf (l.take k))).size + ((bs p.2.written).size + 1) ≤ 1000000 := by rw [bs_size, bs_size, Lx.written_length]; omega
      have HE := hid (show bs (Lx.allOf (l.take k)) ++ (bs p.2.written ++ ⟨#[32]⟩) = bs (Lx.allOf (l.take (k + 1))) from bs_ext (by
        rw [app_list, app_list, bs_list, bs_list, hstep]))
      clear hp hstep hle hle2 hwl
      go_wp2_with (go_at_call 16; refine (written_tok _ p.2 _ htl).mono ?_; rintro e w' ⟨rfl, hbx⟩)
      go_roundw
      case rel => exact ⟨k + 1, by omega, by go_num, by rw [HE.out], hbr.trans (hbx.mono hbr.size)⟩
      case measure => simp [intOf]; omega
    · have hks : k = l.length := by omega
      subst hks
      go_wp2
      go_ret
      exact ⟨by rw [List.take_length]; rfl, hbr⟩

end Go.Proofs.YtlojckkccgpabaaDoor
