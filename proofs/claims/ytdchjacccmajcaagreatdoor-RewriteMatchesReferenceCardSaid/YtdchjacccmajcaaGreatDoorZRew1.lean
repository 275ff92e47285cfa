/-
  rewrite.isCost, isForm, folded. Conditions: lengths; the library's tables.
-/
import Derived.Test.YtdchjacccmajcaaGreatDoorZMPlain
import Derived.Test.YtdchjacccmajcaaGreatDoorZScr4
import Derived.Shelf.Strings.SlTrimAscii
namespace Go.Proofs.YtdchjacccmajcaaGreatDoor
open Go.RowKit Go.Lib

theorem str_ne {a b : ByteArray} (h : a.data.toList ≠ b.data.toList) : (a.toList == b.toList) = false := by
  rw [ByteArray.toList_eq, ByteArray.toList_eq, beq_eq_false_iff_ne]; exact h
theorem str_eq {a b : ByteArray} (h : a.data.toList = b.data.toList) : (a.toList == b.toList) = true := by
  rw [ByteArray.toList_eq, ByteArray.toList_eq, beq_iff_eq]; exact h

theorem isCost_any (n : Int) (w : World) : Calls Tryz.prog 36 #[.int .i64 n] w fun e w' => e = .returned (.bool (Rw.isCost n)) ∧ w = w' := by
  go_enter Tryz.func36, Tryz.ntmps36
  by_cases h : (0 : Int) ≤ n
  · have he : Rw.isCost n = decide (n ≤ 1000) := by simp [Rw.isCost, h]
    have HE := hid he
    clear he
    go_wp2
    go_ret
    exact ⟨ret_bool HE.out.symm, rfl⟩
  · have he : Rw.isCost n = false := by simp [Rw.isCost, h]
    have HE := hid he
    clear he
    go_wp2
    go_ret
    exact ⟨ret_bool HE.out.symm, rfl⟩

theorem drop_nil (p : UInt8 → Bool) : ∀ l : List UInt8, l.dropWhile p = [] ↔ l.all p = true
  | [] => by simp
  | c :: l => by
    rw [List.dropWhile_cons, List.all_cons]
    split
    · rename_i h; rw [drop_nil p l, h]; simp
    · rename_i h; simp [h]

theorem drop_all (p : UInt8 → Bool) : ∀ l : List UInt8, (l.dropWhile p).all p = true ↔ l.all p = true
  | [] => by simp
  | c :: l => by
    rw [List.dropWhile_cons, List.all_cons]
    split
    · rename_i h; rw [drop_all p l, h]; simp
    · rename_i h; simp [h]

theorem trim_nil (s cs : List UInt8) : (Lib.trimS s cs = []) ↔ s.all cs.contains = true := by
  unfold Lib.trimS Lib.trimLeftS Lib.trimRightS
  rw [drop_nil, List.all_reverse]
  have := drop_all (fun x => cs.contains x) s.reverse
  rw [this, List.all_reverse]

theorem trim_any (s : ByteArray) (w : World) (hs : s.size ≤ 9223372036854775807) :
    Calls Tryz.prog 71 #[.string s, .string ⟨#[97, 98, 99, 100, 101, 102, 103, 104, 105, 106, 107, 108, 109, 110, 111, 112, 113, 114, 115, 116, 117, 118, 119, 120, 121, 122]⟩] w fun e w' =>
      e = .returned (.string ⟨(Lib.trimS s.data.toList Sc.small).toArray⟩) ∧ Below w.heap.size w w' :=
  Any.strings_Trim_laid Tryz.lays160 (by kernel_rfl) s _ w hs (by decide) (ascii_of_all (by decide))

set_option maxRecDepth 100000 in
theorem isForm_any (s : ByteArray) (w : World) (hs : s.size ≤ 1000000) : Calls Tryz.prog 38 #[.string s] w (Gives (.bool (Rw.isForm s.data.toList)) w) := by
  have hsz : s.data.toList.length = s.size := by simp
  by_cases h3 : (s.size : Int) ≤ 3
  · have HT := hid (trim_any s w (by omega))
    cases ht : Lib.trimS s.data.toList Sc.small with
    | nil =>
      have he := hid (show Rw.isForm s.data.toList = true by
        unfold Rw.isForm
        rw [(trim_nil _ _).1 ht, decide_eq_true (by omega)]; rfl)
      rw [ht] at HT
      have hne : (⟨([] : List UInt8).toArray⟩ : ByteArray).toList.isEmpty = true := by rw [ByteArray.toList_eq]; rfl
      clear ht
      go_enter Tryz.func38, Tryz.ntmps38
      go_wp2_with fail
      refine (HT.out).mono ?_
      rintro e w1 ⟨rfl, hb1⟩
      go_wp2
      go_ret
      exact ⟨ret_bool he.out.symm, hb1⟩
    | cons c l =>
      have he := hid (show Rw.isForm s.data.toList = false by
        unfold Rw.isForm
        have : s.data.toList.all Sc.small.contains = false := by
          rw [Bool.eq_false_iff]; intro h
          rw [(trim_nil _ _).2 h] at ht; cases ht
        rw [this, Bool.and_false])
      rw [ht] at HT
      have hne : (⟨(c :: l).toArray⟩ : ByteArray).toList.isEmpty = false := by rw [ByteArray.toList_eq]; rfl
      clear ht
      go_enter Tryz.func38, Tryz.ntmps38
      go_wp2_with fail
      refine (HT.out).mono ?_
      rintro e w1 ⟨rfl, hb1⟩
      go_wp2
      go_ret
      exact ⟨ret_bool he.out.symm, hb1⟩
  · have he := hid (show Rw.isForm s.data.toList = false by
      unfold Rw.isForm
      rw [decide_eq_false (by omega), Bool.false_and])
    go_enter Tryz.func38, Tryz.ntmps38
    go_wp2
    go_ret
    exact ⟨ret_bool he.out.symm, Below.refl _ _⟩

set_option maxRecDepth 100000 in
set_option maxHeartbeats 800000 in
theorem folded_any (k : Int) (s : ByteArray) (most : Int) (w : World) (hs : s.size ≤ 1000000) (hT : Tabs w) : Calls Tryz.prog 37 #[.int .i64 k, .string s, .int .i64 most] w (Gives (.bool (Rw.folded k s.data.toList most)) w) := by
  cases hl : Sc.lets k s.data.toList with
  | none =>
    have he := hid (show Rw.folded k s.data.toList most = false by unfold Rw.folded; rw [hl])
    have HL := hid hl
    clear hl
    go_enter Tryz.func37, Tryz.ntmps37
    go_wp2_with fail
    refine (fold_any k s w hs hT).mono ?_
    rintro e w1 h1
    unfold FoldPost at h1
    rw [HL.out] at h1
    obtain ⟨rfl, hb1⟩ := h1
    go_wp2
    go_ret
    exact ⟨ret_bool he.out.symm, hb1⟩
  | some ls =>
    have HL := hid hl
    by_cases hf : Sc.fold s.data.toList = s.data.toList
    · have he := hid (show Rw.folded k s.data.toList most = decide ((ls.length : Int) ≤ most) by unfold Rw.folded; rw [hl]; simp [hf])
      have HF := hid hf
      have hlen := (Sc.lets_len hl).2
      clear hl hf
      go_enter Tryz.func37, Tryz.ntmps37
      go_wp2_with fail
      refine (fold_any k s w hs hT).mono ?_
      rintro e w1 h1
      unfold FoldPost at h1
      rw [HL.out] at h1
      obtain ⟨rfl, hb1⟩ := h1
      rw [HF.out]
      have e1 : bs s.data.toList = s := rfl
      rw [e1]
      clear e1
      have hT1 := hid (hT.below hb1)
      have HB := hid hb1
      clear hb1
      go_wp2_with fail
      refine (letters_any k s w1 hs hT1.out).mono ?_
      rintro e w2 h2
      unfold LettersPost at h2
      rw [HL.out] at h2
      obtain ⟨v, rfl, ho, hb2⟩ := h2
      obtain ⟨a, cap, rfl⟩ := ownsRow_slice ho
      have HZ := hid (HB.out.trans (hb2.mono HB.out.size))
      clear ho hb2
      go_wp2
      go_ret
      exact ⟨ret_bool he.out.symm, HZ.out⟩
    · have he := hid (show Rw.folded k s.data.toList most = false by unfold Rw.folded; rw [hl]; simp [hf])
      have hne : ((bs (Sc.fold s.data.toList)).toList == s.toList) = false := str_ne hf
      clear hl hf
      go_enter Tryz.func37, Tryz.ntmps37
      go_wp2_with fail
      refine (fold_any k s w hs hT).mono ?_
      rintro e w1 h1
      unfold FoldPost at h1
      rw [HL.out] at h1
      obtain ⟨rfl, hb1⟩ := h1
      go_wp2
      go_ret
      exact ⟨ret_bool he.out.symm, hb1⟩

end Go.Proofs.YtdchjacccmajcaaGreatDoor
