/-
  fact.isName, fact.Index. Conditions: lengths.
-/
import Derived.Test.YteogmlgmodeajaaGreatDoorZFaMem
namespace Go.Proofs.YteogmlgmodeajaaGreatDoor
open Go.RowKit Go.Maps

theorem isWord_iff (c : UInt8) : Lx.isWord c = true ↔ ((97 ≤ c.toNat ∧ c.toNat ≤ 122) ∨ (65 ≤ c.toNat ∧ c.toNat ≤ 90)) ∨ (48 ≤ c.toNat ∧ c.toNat ≤ 57) ∨ c.toNat = 95 := by
  unfold Lx.isWord
  rw [Bool.or_eq_true, Bool.or_eq_true, letter_iff, digit_iff, beq_iff_eq, ← UInt8.toNat_inj, or_assoc]
  rfl

/-- so far it is a name -/
def nmTo (l : List UInt8) (k : Nat) : Prop := (l.take k).all Lx.isWord = true ∧ (0 < k → l.head?.any Lx.isLetter = true)

theorem nm_no {l : List UInt8} {k : Nat} {c : UInt8} (hc : l[k]? = some c) (h1 : ¬ ((97 ≤ c.toNat ∧ c.toNat ≤ 122) ∨ (65 ≤ c.toNat ∧ c.toNat ≤ 90))) (h2 : k = 0 ∨ ¬ ((48 ≤ c.toNat ∧ c.toNat ≤ 57) ∨ c.toNat = 95)) : Fa.nm l = false := by
  rw [Bool.eq_false_iff]; intro h
  unfold Fa.nm at h
  simp only [Bool.and_eq_true, List.all_eq_true] at h
  obtain ⟨⟨⟨ha, _⟩, _⟩, hh⟩ := h
  rcases h2 with rfl | h2
  · rw [List.head?_eq_getElem?, hc] at hh
    exact h1 ((letter_iff c).1 hh)
  · have := (isWord_iff c).1 (ha c (List.mem_of_getElem? hc))
    rcases this with h | h
    · exact h1 h
    · exact h2 h
theorem nm_yes {l : List UInt8} {k : Nat} {c : UInt8} (hc : l[k]? = some c) (h : nmTo l k) (h1 : ((97 ≤ c.toNat ∧ c.toNat ≤ 122) ∨ (65 ≤ c.toNat ∧ c.toNat ≤ 90)) ∨ (k ≠ 0 ∧ ((48 ≤ c.toNat ∧ c.toNat ≤ 57) ∨ c.toNat = 95))) : nmTo l (k + 1) := by
  refine ⟨?_, fun _ => ?_⟩
  · rw [take_snoc hc, List.all_append, h.1]
    simp only [List.all_cons, List.all_nil, Bool.and_true, Bool.true_and]
    rw [isWord_iff]
    rcases h1 with h1 | ⟨_, h1⟩
    · exact .inl h1
    · exact .inr h1
  · by_cases hk : k = 0
    · subst hk
      rw [List.head?_eq_getElem?, hc]
      rcases h1 with h1 | ⟨h1, _⟩
      · exact (letter_iff c).2 h1
      · exact absurd rfl h1
    · exact h.2 (by omega)
theorem nm_end {l : List UInt8} (h : nmTo l l.length) : Fa.nm l = (decide (0 < l.length) && decide (l.length ≤ 24)) := by
  unfold Fa.nm
  have h1 := h.1
  rw [List.take_length] at h1
  rw [h1]
  by_cases h0 : 0 < l.length
  · rw [h.2 h0]; simp
  · simp [h0]

theorem byte_class (n : Nat) : n < 48 ∨ (48 ≤ n ∧ n ≤ 57) ∨ (58 ≤ n ∧ n ≤ 64) ∨ (65 ≤ n ∧ n ≤ 90) ∨ (91 ≤ n ∧ n ≤ 94) ∨ n = 95 ∨ n = 96 ∨ (97 ≤ n ∧ n ≤ 122) ∨ 123 ≤ n := by omega

set_option maxRecDepth 100000 in
set_option maxHeartbeats 4000000 in
theorem isName_any (t : ByteArray) (w : World) (hs : t.size ≤ maxLen) : Calls Tryz.prog 42 #[.string t] w (Same (.bool (Fa.nm t.data.toList)) w) := by
  unfold maxLen at hs
  have HSL := hid (show t.data.toList.length = t.size by rw [Array.length_toList]; rfl)
  go_enter Tryz.func42, Tryz.ntmps42
  go_wp2
  go_loop [9] (fun i => ∃ k : Nat, k ≤ t.size ∧ i = .int .i64 k ∧ Hid (nmTo t.data.toList k)) (fun i => t.size - (intOf i).toNat)
  case atStart => exact ⟨0, Nat.zero_le _, rfl, by simp [Hid, nmTo]⟩
  case round =>
    obtain ⟨k, hk, rfl, HK⟩ := hrel
    by_cases hlt : k < t.size
    · obtain ⟨c, hc⟩ : ∃ c, c = t[k] := ⟨_, rfl⟩
      have hcl : t.data.toList[k]? = some c := by
        rw [hc, List.getElem?_eq_getElem (by rw [HSL.out]; exact hlt)]; rfl
      have HN := hid (fun h1 h2 => nm_no (k := k) hcl h1 h2)
      have HY := hid (fun h1 => nm_yes (k := k) hcl HK.out h1)
      rw [hc] at HN HY
      have hcls := byte_class t[k].toNat
      clear hc hcl
      have hk0 : (0 : Int) ≤ (k : Int) := by omega
      have hk1 : (k : Int) < (t.size : Int) := by omega
      rcases hcls with h | h | h | h | h | h | h | h | h
      all_goals
        have H := hid h
        first | (have f1 : (97 : Int) ≤ (t[k].toNat : Int) := by omega) | (have f1 : ¬ (97 : Int) ≤ (t[k].toNat : Int) := by omega)
        first | (have f2 : (t[k].toNat : Int) ≤ 122 := by omega) | (have f2 : ¬ (t[k].toNat : Int) ≤ 122 := by omega)
        first | (have f3 : (65 : Int) ≤ (t[k].toNat : Int) := by omega) | (have f3 : ¬ (65 : Int) ≤ (t[k].toNat : Int) := by omega)
        first | (have f4 : (t[k].toNat : Int) ≤ 90 := by omega) | (have f4 : ¬ (t[k].toNat : Int) ≤ 90 := by omega)
        first | (have f5 : (48 : Int) ≤ (t[k].toNat : Int) := by omega) | (have f5 : ¬ (48 : Int) ≤ (t[k].toNat : Int) := by omega)
        first | (have f6 : (t[k].toNat : Int) ≤ 57 := by omega) | (have f6 : ¬ (t[k].toNat : Int) ≤ 57 := by omega)
        first | (have f7 : ((t[k].toNat : Int) == 95) = true := by rw [beq_iff_eq]; omega) | (have f7 : ((t[k].toNat : Int) == 95) = false := by rw [beq_eq_false_iff_ne]; omega)
        clear h
        by_cases hkz : (k : Int) = 0
        · have hkb : ((k : Int) == 0) = true := by rw [hkz]; rfl
          have HKZ := hid (show k = 0 by omega)
          clear hkz
          go_wp2
          first
            | (go_ret; exact ⟨ret_bool (HN.out (by have := H.out; omega) (.inl HKZ.out)).symm, rfl⟩)
            | (go_round
               case rel => exact ⟨k + 1, by omega, by go_num, HY.out (by have := H.out; omega)⟩
               case measure => simp [intOf]; omega)
        · have hkb : ((k : Int) == 0) = false := by rw [beq_eq_false_iff_ne]; exact hkz
          have HKZ := hid (show k ≠ 0 by omega)
          clear hkz
          go_wp2
          first
            | (go_ret; exact ⟨ret_bool (HN.out (by have := H.out; omega) (.inr (by have := H.out; omega))).symm, rfl⟩)
            | (go_round
               case rel => exact ⟨k + 1, by omega, by go_num, HY.out (by have := H.out; have := HKZ.out; omega)⟩
               case measure => simp [intOf]; omega)
    · have hke : k = t.size := by omega
      have HE := hid (nm_end (by rw [HSL.out, ← hke]; exact HK.out))
      rw [HSL.out] at HE
      by_cases h0 : t.size = 0
      · have e1 : t.toList = [] := by
          rw [ByteArray.toList_eq]
          exact List.eq_nil_of_length_eq_zero (by rw [HSL.out]; exact h0)
        have HF := hid (show Fa.nm t.data.toList = false by rw [HE.out, h0]; rfl)
        clear h0 hke
        go_wp2
        go_ret
        exact ⟨ret_bool HF.out.symm, rfl⟩
      · have e1 : t.toList.isEmpty = false := by
          rw [ByteArray.toList_eq]
          cases hd : t.data.toList with
          | nil => exfalso; apply h0; rw [← HSL.out, hd]; rfl
          | cons x l => rfl
        have HF := hid (show Fa.nm t.data.toList = decide ((t.size : Int) ≤ 24) by
          rw [HE.out, decide_eq_true (show 0 < t.size by omega), Bool.true_and]
          by_cases h : t.size ≤ 24
          · rw [decide_eq_true h, decide_eq_true (by omega)]
          · rw [decide_eq_false h, decide_eq_false (by omega)])
        clear h0 hke
        go_wp2
        go_ret
        exact ⟨by rw [HF.out]; first | rfl | simp, rfl⟩

theorem same_fact (f : Fa.Fact) (a : List UInt8) (B : Nat) (W : World) (hB : W.cell? ⟨B, 0, none⟩ = some (.string (bs a))) (hBs : B < W.heap.size) :
    Calls Tryz.prog 45 #[factV f, .pointer (some ⟨B, 0, none⟩)] W (Gives (.bool (decide (f.name = a))) W) := by
  unfold factV
  have hl := name_beq f.name a
  have hbW := hid (show Below W.heap.size W (W.alloc (.cells #[.string (bs f.name), .int .i64 f.kind, .int .i64 f.lo, .int .i64 f.hi] 62)) from (Below.refl _ W).alloc (Nat.le_refl _) _)
  go_enter Tryz.func45, Tryz.ntmps45
  go_wp2
  go_ret
  exact ⟨rfl, hbW.out⟩

theorem idxL_drop {l : Fa.Dom} {a : List UInt8} {k : Nat} {f : Fa.Fact} (h : l[k]? = some f) : Fa.idxL (l.drop k) a k = if f.name = a then (k : Int) else Fa.idxL (l.drop (k + 1)) a (k + 1) := by
  rw [drop_cons h]
  rfl

set_option maxRecDepth 100000 in
set_option maxHeartbeats 2000000 in
theorem factFunc_any (d : Fa.Dom) (v : Value) (a : List UInt8) (B : Nat) (W : World) (h : SlOf W v 4 factC d) (hB : W.cell? ⟨B, 0, none⟩ = some (.string (bs a))) (hBs : B < W.heap.size) :
    Calls Tryz.prog 44 #[v, .func (.func 45) #[] #[.pointer (some ⟨B, 0, none⟩)]] W (Gives (.int .i64 (Fa.idx d a)) W) := by
  obtain ⟨va, cap, rfl, h1, h2, h3⟩ := h
  have H3 := hid h3
  have HB := hid hB
  have hd : d.length ≤ 9223372036854775807 := by unfold maxLen at h2; omega
  clear h3 hB
  go_enter Tryz.func44, Tryz.ntmps44
  go_wp2_with fail
  go_loopw [8] (fun k wr => ∃ n : Nat, n ≤ d.length ∧ k = .int .i64 n ∧ Hid (Fa.idx d a = Fa.idxL (d.drop n) a n) ∧ Hid (Below W.heap.size W wr)) (fun k _ => d.length - (intOf k).toNat)
  case atStart => exact ⟨0, Nat.zero_le _, rfl, rfl, Below.refl _ _⟩
  case round =>
    obtain ⟨n, hn, rfl, HNO, HBR⟩ := hrel
    by_cases hlt : n < d.length
    · obtain ⟨g, o, rfl, hr⟩ := H3.out (by omega)
      obtain ⟨f, hf⟩ : ∃ f, d[n]? = some f := ⟨_, List.getElem?_eq_getElem hlt⟩
      have hc := (hr.below HBR.out).2 n f hf
      have c0 := hc 0 _ rfl
      have c1 := hc 1 _ rfl
      have c2 := hc 2 _ rfl
      have c3 := hc 3 _ rfl
      rw [Nat.add_zero] at c0
      have hg := (hr.below HBR.out).1
      have hn0 : (0 : Int) ≤ (n : Int) := by omega
      have hn1 : (n : Int) < (d.length : Int) := by omega
      have HC := hid (same_fact f a B wr ((HBR.out.cell (p := ⟨B, 0, none⟩) hBs).trans HB.out) (Nat.lt_of_lt_of_le hBs HBR.out.size))
      unfold factV at HC
      have HS := hid (idxL_drop (a := a) hf)
      clear hc hr hf
      go_wp2_with fail
      refine (HC.out).mono ?_
      rintro e w2 ⟨rfl, hb2⟩
      have HB2 := hid (Below.step HBR.out hb2)
      clear hb2 c0 c1 c2 c3
      by_cases hfa : f.name = a
      · have hd2 : decide (f.name = a) = true := decide_eq_true hfa
        have HE := hid (show Fa.idx d a = (n : Int) by rw [HNO.out, HS.out, if_pos hfa])
        clear hfa
        go_wp2_with fail
        go_ret
        exact ⟨by rw [HE.out]; rfl, HB2.out⟩
      · have hd2 : decide (f.name = a) = false := decide_eq_false hfa
        have HE := hid (show Fa.idx d a = Fa.idxL (d.drop (n + 1)) a (n + 1) by rw [HNO.out, HS.out, if_neg hfa])
        clear hfa
        go_wp2_with fail
        go_roundw
        case rel => exact ⟨n + 1, by omega, by go_num, HE, HB2⟩
        case measure => simp [intOf]; omega
    · have HE := hid (show Fa.idx d a = -1 by rw [HNO.out, List.drop_eq_nil_of_le (by omega)]; rfl)
      go_wp2_with fail
      go_ret
      exact ⟨by rw [HE.out]; rfl, HBR.out⟩

set_option maxRecDepth 100000 in
set_option maxHeartbeats 2000000 in
theorem factAt_any (d : Fa.Dom) (v : Value) (a : List UInt8) (W : World) (h : SlOf W v 4 factC d) : Calls Tryz.prog 16 #[.agg #[v], .string (bs a)] W (Gives (.int .i64 (Fa.idx d a)) W) := by
  obtain ⟨W1, hW1⟩ : ∃ W1, W1 = (W.alloc (.cells #[v] 24)).alloc (.cells #[.string (bs a)] 9) := ⟨_, rfl⟩
  have hb1 : Below W.heap.size W W1 := by rw [hW1]; exact ((Below.refl _ W).alloc (Nat.le_refl _) _).alloc (by simp) _
  have hs1 : W1.heap[W.heap.size + 1]? = some (.cells #[.string (bs a)] 9 (0, 0)) := by
    rw [hW1, show W.heap.size + 1 = (W.alloc (.cells #[v] 24)).heap.size by simp]; exact alloc_new _ _
  have HC := hid (factFunc_any d v a (W.heap.size + 1) W1 (h.below hb1) (by simp [World.cell?, hs1]) (Array.getElem?_eq_some_iff.1 hs1).1)
  obtain ⟨va, cap, rfl, -, -, -⟩ := h
  have HB := hid hb1
  clear hb1 hs1
  go_enter Tryz.func16, Tryz.ntmps16
  go_wp2_with fail
  rw [← hW1]
  clear hW1
  refine (HC.out).mono ?_
  rintro e w2 ⟨rfl, hb2⟩
  have HB2 := hid (Below.step HB.out hb2)
  clear hb2
  go_wp2_with fail
  go_ret
  exact ⟨rfl, HB2.out⟩

end Go.Proofs.YteogmlgmodeajaaGreatDoor
