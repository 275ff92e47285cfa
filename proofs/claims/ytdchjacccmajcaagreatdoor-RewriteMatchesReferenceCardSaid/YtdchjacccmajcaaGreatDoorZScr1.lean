/-
  script.is, script.length: what they return. Conditions: lengths; for ToLower the tables that the library's own text lays.
-/
import Derived.Test.YtdchjacccmajcaaGreatDoorZMPlain
import Derived.Test.YtdchjacccmajcaaGreatDoorZMBase
import Derived.Test.YtdchjacccmajcaaGreatDoorZShelf
namespace Go.Proofs.YtdchjacccmajcaaGreatDoor
open Go.RowKit Go.Lib

theorem indexByte_mem (l : List UInt8) (c : UInt8) : (0 ≤ Lib.indexByte l c) ↔ c ∈ l := by
  constructor
  · intro h
    obtain ⟨o, ho⟩ : ∃ o : Nat, Lib.indexByte l c = o := ⟨(Lib.indexByte l c).toNat, by omega⟩
    exact List.mem_of_getElem? (Lib.indexByte_some ho).1
  · intro h
    have hge := Lib.indexByte_ge l c
    obtain ⟨i, hi⟩ := List.getElem?_of_mem h
    apply Classical.byContradiction
    intro hn
    exact Lib.indexByte_none (by omega : Lib.indexByte l c = -1) i hi

theorem bs_len (l : List UInt8) : (bs l).size = l.length := by simp [bs, ByteArray.size]

/-- the tables that the library's text lays -/
structure Tabs (w : World) : Prop where
  case_ : CaseVar 0 caseA w
  utf8 : Lib.Utf8Tabs 2 3 w

set_option maxRecDepth 100000 in
theorem is_any (s set : ByteArray) (i : Nat) (w : World) (_hs : s.size ≤ maxLen) : Calls Tryz.prog 119 #[.string s, .int .i64 i, .string set] w (Same (.bool (Sc.among s.data.toList i set.data.toList)) w) := by
  by_cases hlt : i < s.size
  · have he := hid (show Sc.among s.data.toList i set.data.toList = decide (0 ≤ Lib.indexByte set.data.toList s[i]) by
      have h1 : s.data.toList[i]? = some s[i] := by
        rw [List.getElem?_eq_getElem (by simpa using hlt)]; rfl
      unfold Sc.among
      rw [h1]
      simp only
      rw [Bool.eq_iff_iff, decide_eq_true_eq, indexByte_mem, List.contains_iff_mem])
    have h0 : (0 : Int) ≤ (i : Int) := by omega
    have h1 : (i : Int) < (s.size : Int) := by omega
    have hge := Lib.indexByte_ge set.data.toList s[i]
    have e : (((s[i].toNat : Nat) : Int)).toNat.toUInt8 = s[i] := by simp
    have hc := Tryz.strings_IndexByte set ((s[i].toNat : Nat) : Int) w
    rw [e] at hc
    have HC := hid hc
    clear e hc
    generalize Lib.indexByte set.data.toList s[i] = n at *
    go_enter Tryz.func119, Tryz.ntmps119
    go_wp2_with (go_at_call 127; refine (HC.out).mono ?_; rintro e w' ⟨rfl, rfl⟩)
    go_ret
    exact ⟨ret_bool he.out.symm, rfl⟩
  · have he := hid (show Sc.among s.data.toList i set.data.toList = false by
      unfold Sc.among
      rw [List.getElem?_eq_none (by simp; omega)])
    have h1 : ¬ (i : Int) < (s.size : Int) := by omega
    go_enter Tryz.func119, Tryz.ntmps119
    go_wp2
    go_ret
    exact ⟨ret_bool he.out.symm, rfl⟩

/-- the same, the answer known -/
theorem is_val (s set : ByteArray) (i : Nat) (b : Bool) (w : World) (hs : s.size ≤ maxLen) (h : Sc.among s.data.toList i set.data.toList = b) :
    Calls Tryz.prog 119 #[.string s, .int .i64 i, .string set] w fun e w' => e = .returned (.bool b) ∧ w = w' := by
  refine (is_any s set i w hs).mono ?_
  rintro e w' ⟨rfl, rfl⟩
  exact ⟨by rw [h], rfl⟩

theorem Tabs.below {w w' : World} (h : Tabs w) (hb : Below w.heap.size w w') : Tabs w' := by
  obtain ⟨⟨R, oR, cap, h1, h2⟩, h3, h4⟩ := h
  have key : ∀ (a : Addr) v, w.cell? a = some v → w'.cell? a = some v := fun a v ha => (hb.cell (World.block_lt_of_cell? w a ha)).trans ha
  refine ⟨⟨R, oR, cap, key _ _ h1, ?_⟩, fun c hc => key _ _ (h3 c hc), fun i hi => ⟨key _ _ (h4 i hi).1, key _ _ (h4 i hi).2⟩⟩
  intro i hi
  obtain ⟨a1, a2, a3, a4, a5⟩ := h2 i hi
  exact ⟨key _ _ a1, key _ _ a2, key _ _ a3, key _ _ a4, key _ _ a5⟩

theorem lower_low (c : UInt8) : Lib.lowerB c = Sc.low c := by
  unfold Lib.lowerB Lib.isUpperB Sc.low
  simp only [Bool.and_eq_true, decide_eq_true_eq, UInt8.le_iff_toNat_le]
  rfl

theorem lower_word (l : List UInt8) (h : ∀ c ∈ l, c.toNat < 128) : Lib.toLowerD l = Sc.fold l := by
  rw [Lib.toLowerD_ascii _ h]
  exact List.map_congr_left fun c _ => lower_low c

theorem lower_high : ∀ n : Fin 256, 128 ≤ n.val → Lib.toLowerD [UInt8.ofNat n.val] = [239, 191, 189] := by decide +kernel

/-- the first byte of the lowered first byte -/
theorem lower_head (s : List UInt8) : Sc.among (Lib.toLowerD (s.take 1)) 0 Sc.small = Sc.among (s.map Sc.low) 0 Sc.small := by
  cases s with
  | nil => rfl
  | cons c s =>
    rw [List.take_succ_cons, List.take_zero]
    by_cases h : c.toNat < 128
    · rw [lower_word _ (by intro b hb; simp at hb; subst hb; exact h)]; rfl
    · have e : c = UInt8.ofNat c.toNat := by simp
      have hc := lower_high ⟨c.toNat, by have := c.toNat_lt; omega⟩ (by simp; omega)
      simp only [UInt8.ofNat_toNat] at hc
      rw [hc]
      have h1 : Sc.among ((c :: s).map Sc.low) 0 Sc.small = Sc.small.contains (Sc.low c) := rfl
      rw [h1]
      have h2 : Sc.small.contains (Sc.low c) = false := by
        rw [Bool.eq_false_iff]
        intro hm
        have := Sc.small_lt _ (by simpa using hm)
        exact h (Sc.low_lt this)
      rw [h2]; decide

set_option maxRecDepth 100000 in
set_option maxHeartbeats 800000 in
theorem length_one (k : Int) (s : ByteArray) (w : World) (hs : s.size ≤ maxLen) (k2 : k ≠ 2) (k4 : k ≠ 4) : Calls Tryz.prog 80 #[.int .i64 k, .string s] w (Gives (.int .i64 (Sc.len k s.data.toList)) w) := by
  have hs' := hs
  unfold maxLen at hs
  by_cases k1 : k = 1
  · subst k1
    cases h : Sc.among s.data.toList 0 Sc.small with
    | true =>
      have he := hid (show Sc.len 1 s.data.toList = 1 by unfold Sc.len; rw [if_pos rfl, if_pos h])
      have H := hid h
      clear h k2 k4
      go_enter Tryz.func80, Tryz.ntmps80
      go_wp2_with (go_at_call 119; refine (is_val _ _ 0 _ _ hs' H.out).mono ?_; rintro e w' ⟨rfl, rfl⟩)
      go_ret
      exact ⟨by rw [he.out]; rfl, Below.refl _ _⟩
    | false =>
      have he := hid (show Sc.len 1 s.data.toList = 0 by unfold Sc.len; rw [if_pos rfl, if_neg (by rw [h]; decide)])
      have H := hid h
      clear h k2 k4
      go_enter Tryz.func80, Tryz.ntmps80
      go_wp2_with (go_at_call 119; refine (is_val _ _ 0 _ _ hs' H.out).mono ?_; rintro e w' ⟨rfl, rfl⟩)
      go_ret
      exact ⟨by rw [he.out]; rfl, Below.refl _ _⟩
  by_cases k3 : k = 3
  · subst k3
    cases h : Sc.among s.data.toList 0 Sc.abj with
    | true =>
      have he := hid (show Sc.len 3 s.data.toList = 1 by unfold Sc.len; rw [if_neg (by decide), if_neg (by decide), if_pos rfl, if_pos h])
      have H := hid h
      clear h k2 k4 k1
      go_enter Tryz.func80, Tryz.ntmps80
      go_wp2_with (go_at_call 119; refine (is_val _ _ 0 _ _ hs' H.out).mono ?_; rintro e w' ⟨rfl, rfl⟩)
      go_ret
      exact ⟨by rw [he.out]; rfl, Below.refl _ _⟩
    | false =>
      have he := hid (show Sc.len 3 s.data.toList = 0 by unfold Sc.len; rw [if_neg (by decide), if_neg (by decide), if_pos rfl, if_neg (by rw [h]; decide)])
      have H := hid h
      clear h k2 k4 k1
      go_enter Tryz.func80, Tryz.ntmps80
      go_wp2_with (go_at_call 119; refine (is_val _ _ 0 _ _ hs' H.out).mono ?_; rintro e w' ⟨rfl, rfl⟩)
      go_ret
      exact ⟨by rw [he.out]; rfl, Below.refl _ _⟩
  have he := hid (show Sc.len k s.data.toList = 0 by unfold Sc.len; rw [if_neg k1, if_neg k2, if_neg k3, if_neg k4])
  have b1 : (k == 1) = false := by simpa using k1
  have b2 : (k == 2) = false := by simpa using k2
  have b3 : (k == 3) = false := by simpa using k3
  have b4 : (k == 4) = false := by simpa using k4
  clear k1 k2 k3 k4
  go_enter Tryz.func80, Tryz.ntmps80
  go_wp2
  go_ret
  exact ⟨by rw [he.out]; rfl, Below.refl _ _⟩

theorem lower_short (s : List UInt8) : (Lib.toLowerD (s.take 1)).length ≤ 3 := by
  cases s with
  | nil => decide
  | cons c s =>
    rw [List.take_succ_cons, List.take_zero]
    by_cases h : c.toNat < 128
    · rw [lower_word _ (by intro b hb; simp at hb; subst hb; exact h)]; simp [Sc.fold]
    · have hc := lower_high ⟨c.toNat, by have := c.toNat_lt; omega⟩ (by simp; omega)
      simp only [UInt8.ofNat_toNat] at hc
      rw [hc]; decide

set_option maxRecDepth 100000 in
set_option maxHeartbeats 800000 in
theorem length_two (s : ByteArray) (w : World) (hs : s.size ≤ 1000000) (hT : Tabs w) : Calls Tryz.prog 80 #[.int .i64 2, .string s] w (Gives (.int .i64 (Sc.len 2 s.data.toList)) w) := by
  have hs' : s.size ≤ maxLen := by unfold maxLen; omega
  have hlo := hid (lower_head s.data.toList)
  obtain ⟨n, hn, hn1⟩ : ∃ n : Nat, n = min 1 s.size ∧ n ≤ s.size := ⟨_, rfl, Nat.min_le_right _ _⟩
  have hx := hid (show (s.extract 0 n).data.toList = s.data.toList.take 1 by
    rw [extract_list, List.drop_zero, Nat.sub_zero, hn]
    by_cases h0 : s.size = 0
    · have : s.data.toList = [] := List.length_eq_zero_iff.1 (by simpa using h0)
      rw [this]; simp
    · rw [show min 1 s.size = 1 by omega])
  have hlow := Tryz.strings_ToLower_any (s.extract 0 n) w (by rw [ByteArray.size_extract]; omega) hT.case_ hT.utf8
  rw [hx.out] at hlow
  have HL := hid hlow
  have hlz : (⟨(Lib.toLowerD (s.data.toList.take 1)).toArray⟩ : ByteArray).size ≤ maxLen := by
    have := lower_short s.data.toList
    show (Lib.toLowerD (s.data.toList.take 1)).toArray.size ≤ maxLen
    rw [List.size_toArray]; unfold maxLen; omega
  have hn' : min 1 (s.size : Int) = (n : Int) := by omega
  clear hlow hn
  cases h : Sc.among (s.data.toList.map Sc.low) 0 Sc.small with
  | false =>
    have he := hid (show Sc.len 2 s.data.toList = 0 by rw [Sc.len_at2, if_neg (by rw [h]; decide)])
    rw [← hlo.out] at h
    have H := hid h
    clear h
    go_enter Tryz.func80, Tryz.ntmps80
    go_wp2_with fail
    refine (HL.out).mono ?_
    rintro e w1 ⟨rfl, hb1⟩
    go_wp2_with (go_at_call 119; refine (is_val _ _ 0 _ _ hlz H.out).mono ?_; rintro e w' ⟨rfl, rfl⟩)
    go_ret
    exact ⟨by rw [he.out]; rfl, hb1⟩
  | true =>
    rw [← hlo.out] at h
    have H := hid h
    cases h2 : Sc.among s.data.toList 1 Sc.acc with
    | false =>
      have he := hid (show Sc.len 2 s.data.toList = 1 by rw [Sc.len_at2, if_pos (by rw [← hlo.out]; exact h), if_neg (by rw [h2]; decide)])
      have H2 := hid h2
      clear h h2
      go_enter Tryz.func80, Tryz.ntmps80
      go_wp2_with fail
      refine (HL.out).mono ?_
      rintro e w1 ⟨rfl, hb1⟩
      go_wp2_with fail
      refine (is_val _ _ 0 _ _ hlz H.out).mono ?_
      rintro e w' ⟨rfl, rfl⟩
      go_wp2_with fail
      refine (is_val _ _ 1 _ _ hs' H2.out).mono ?_
      rintro e w' ⟨rfl, rfl⟩
      go_wp2
      go_ret
      exact ⟨by rw [he.out]; rfl, hb1⟩
    | true =>
      have he := hid (show Sc.len 2 s.data.toList = 2 by rw [Sc.len_at2, if_pos (by rw [← hlo.out]; exact h), if_pos h2])
      have H2 := hid h2
      clear h h2
      go_enter Tryz.func80, Tryz.ntmps80
      go_wp2_with fail
      refine (HL.out).mono ?_
      rintro e w1 ⟨rfl, hb1⟩
      go_wp2_with fail
      refine (is_val _ _ 0 _ _ hlz H.out).mono ?_
      rintro e w' ⟨rfl, rfl⟩
      go_wp2_with fail
      refine (is_val _ _ 1 _ _ hs' H2.out).mono ?_
      rintro e w' ⟨rfl, rfl⟩
      go_wp2
      go_ret
      exact ⟨by rw [he.out]; rfl, hb1⟩

theorem len_at4 (s : List UInt8) : Sc.len 4 s = if Sc.among s 0 Sc.ons && Sc.among s 1 Sc.vow then 2 else if Sc.among s 0 Sc.vow || Sc.among s 0 [110] then 1 else 0 := by
  unfold Sc.len
  rw [if_neg (by decide), if_neg (by decide), if_neg (by decide), if_pos rfl]

set_option maxRecDepth 100000 in
set_option maxHeartbeats 1600000 in
theorem length_four (s : ByteArray) (w : World) (hs : s.size ≤ maxLen) : Calls Tryz.prog 80 #[.int .i64 4, .string s] w (Gives (.int .i64 (Sc.len 4 s.data.toList)) w) := by
  have hs' := hs
  unfold maxLen at hs
  cases h1 : Sc.among s.data.toList 0 Sc.ons with
  | true =>
    cases h2 : Sc.among s.data.toList 1 Sc.vow with
    | true =>
      have he := hid (show Sc.len 4 s.data.toList = 2 by rw [len_at4, h1, h2]; rfl)
      have H1 := hid h1
      have H2 := hid h2
      clear h1 h2
      go_enter Tryz.func80, Tryz.ntmps80
      go_wp2_with fail
      refine (is_val _ _ 0 _ _ hs' H1.out).mono ?_
      rintro e w' ⟨rfl, rfl⟩
      go_wp2_with fail
      refine (is_val _ _ 1 _ _ hs' H2.out).mono ?_
      rintro e w' ⟨rfl, rfl⟩
      go_wp2
      go_ret
      exact ⟨by rw [he.out]; rfl, Below.refl _ _⟩
    | false =>
      cases h3 : Sc.among s.data.toList 0 Sc.vow with
      | true =>
        have he := hid (show Sc.len 4 s.data.toList = 1 by rw [len_at4, h1, h2, h3]; rfl)
        have H1 := hid h1
        have H2 := hid h2
        have H3 := hid h3
        clear h1 h2 h3
        go_enter Tryz.func80, Tryz.ntmps80
        go_wp2_with fail
        refine (is_val _ _ 0 _ _ hs' H1.out).mono ?_
        rintro e w' ⟨rfl, rfl⟩
        go_wp2_with fail
        refine (is_val _ _ 1 _ _ hs' H2.out).mono ?_
        rintro e w' ⟨rfl, rfl⟩
        go_wp2_with fail
        refine (is_val _ _ 0 _ _ hs' H3.out).mono ?_
        rintro e w' ⟨rfl, rfl⟩
        go_wp2
        go_ret
        exact ⟨by rw [he.out]; rfl, Below.refl _ _⟩
      | false =>
        cases h4 : Sc.among s.data.toList 0 [110] with
        | true | false =>
          have he := hid (show Sc.len 4 s.data.toList = _ by rw [len_at4, h1, h2, h3, h4])
          have H1 := hid h1
          have H2 := hid h2
          have H3 := hid h3
          have H4 := hid h4
          clear h1 h2 h3 h4
          go_enter Tryz.func80, Tryz.ntmps80
          go_wp2_with fail
          refine (is_val _ _ 0 _ _ hs' H1.out).mono ?_
          rintro e w' ⟨rfl, rfl⟩
          go_wp2_with fail
          refine (is_val _ _ 1 _ _ hs' H2.out).mono ?_
          rintro e w' ⟨rfl, rfl⟩
          go_wp2_with fail
          refine (is_val _ _ 0 _ _ hs' H3.out).mono ?_
          rintro e w' ⟨rfl, rfl⟩
          go_wp2_with fail
          refine (is_val _ _ 0 _ _ hs' H4.out).mono ?_
          rintro e w' ⟨rfl, rfl⟩
          go_wp2
          go_ret
          exact ⟨by rw [he.out]; rfl, Below.refl _ _⟩
  | false =>
    cases h3 : Sc.among s.data.toList 0 Sc.vow with
    | true =>
      have he := hid (show Sc.len 4 s.data.toList = 1 by rw [len_at4, h1, h3]; rfl)
      have H1 := hid h1
      have H3 := hid h3
      clear h1 h3
      go_enter Tryz.func80, Tryz.ntmps80
      go_wp2_with fail
      refine (is_val _ _ 0 _ _ hs' H1.out).mono ?_
      rintro e w' ⟨rfl, rfl⟩
      go_wp2_with fail
      refine (is_val _ _ 0 _ _ hs' H3.out).mono ?_
      rintro e w' ⟨rfl, rfl⟩
      go_wp2
      go_ret
      exact ⟨by rw [he.out]; rfl, Below.refl _ _⟩
    | false =>
      cases h4 : Sc.among s.data.toList 0 [110] with
      | true | false =>
        have he := hid (show Sc.len 4 s.data.toList = _ by rw [len_at4, h1, h3, h4])
        have H1 := hid h1
        have H3 := hid h3
        have H4 := hid h4
        clear h1 h3 h4
        go_enter Tryz.func80, Tryz.ntmps80
        go_wp2_with fail
        refine (is_val _ _ 0 _ _ hs' H1.out).mono ?_
        rintro e w' ⟨rfl, rfl⟩
        go_wp2_with fail
        refine (is_val _ _ 0 _ _ hs' H3.out).mono ?_
        rintro e w' ⟨rfl, rfl⟩
        go_wp2_with fail
        refine (is_val _ _ 0 _ _ hs' H4.out).mono ?_
        rintro e w' ⟨rfl, rfl⟩
        go_wp2
        go_ret
        exact ⟨by rw [he.out]; rfl, Below.refl _ _⟩

theorem length_any (k : Int) (s : ByteArray) (w : World) (hs : s.size ≤ 1000000) (hT : Tabs w) : Calls Tryz.prog 80 #[.int .i64 k, .string s] w (Gives (.int .i64 (Sc.len k s.data.toList)) w) := by
  by_cases k2 : k = 2
  · subst k2; exact length_two s w hs hT
  by_cases k4 : k = 4
  · subst k4; exact length_four s w (by unfold maxLen; omega)
  exact length_one k s w (by unfold maxLen; omega) k2 k4

end Go.Proofs.YtdchjacccmajcaaGreatDoor
