/-
  Several texts in one: ZRr1, ZRr2, ZRr3, ZRr4, ZRr5. Conditions: as each law says.
-/
import Derived.Test.YthibphklchalkaaGreatDoorZMPlain
import Derived.Test.YthibphklchalkaaGreatDoorZMBase
import Derived.Test.YthibphklchalkaaGreatDoorZFormC
import Derived.Test.YthibphklchalkaaGreatDoorZMScr
import Derived.Lib.BufferRead
import Derived.Test.YthibphklchalkaaGreatDoorZMRew
import Derived.Test.YthibphklchalkaaGreatDoorZMAlA
namespace Go.Proofs.YthibphklchalkaaGreatDoor
open Go.RowKit Go.Lib Go.Maps

theorem contains_no {l : List UInt8} {k : Nat} {c : UInt8} (h : k ≤ l.length) (hl : (l.take k).contains c = false) (hk : ¬ k < l.length) : l.contains c = false := by
  rwa [List.take_of_length_le (by omega)] at hl
theorem contains_step {l : List UInt8} {k : Nat} {c d : UInt8} (hd : l[k]? = some d) (h : (l.take k).contains c = false) (hc : ¬ d = c) : (l.take (k + 1)).contains c = false := by
  rw [List.take_add_one, hd, List.contains_eq_any_beq, List.any_append, ← List.contains_eq_any_beq, h]
  simpa using Ne.symm hc

set_option maxRecDepth 100000 in
set_option maxHeartbeats 1000000 in
theorem ramong_any (l : List UInt8) (i : Nat) (set : ByteArray) (w : World) (hs : set.size ≤ 100) (_hl : l.length ≤ 9223372036854775807) : Calls Tryz.prog 71 #[.string (bs l), .int .i64 i, .string set] w (Gives (.bool (Sc.among l i set.data.toList)) w) := by
  have hbl := bs_len l
  by_cases hi : i < l.length
  · have hge : decide (l.length ≤ i) = false := decide_eq_false (by omega)
    have hi0 : (0 : Int) ≤ (i : Int) := by omega
    have hi1 : (i : Int) < (l.length : Int) := by omega
    obtain ⟨c, hc⟩ : ∃ c, l[i]? = some c := ⟨_, List.getElem?_eq_getElem hi⟩
    have HC := hid hc
    have HE := hid (show Sc.among l i set.data.toList = set.data.toList.contains c by unfold Sc.among; rw [hc])
    clear hc
    go_enter Tryz.func71, Tryz.ntmps71
    go_wp2_with fail
    go_loopw [7] (fun iv wr => ∃ k : Nat, k ≤ set.size ∧ iv = .int .i64 k ∧ Hid ((set.data.toList.take k).contains c = false) ∧ Hid (Below w.heap.size w wr)) (fun iv _ => set.size - (RowKit.intOf iv).toNat)
    case atStart => exact ⟨0, Nat.zero_le _, rfl, rfl, Below.refl _ _⟩
    case round =>
      obtain ⟨k, hk, rfl, HK, HR⟩ := hrel
      by_cases hlt : k < set.size
      · have hk0 : (0 : Int) ≤ (k : Int) := by omega
        have hk1 : (k : Int) < (set.size : Int) := by omega
        obtain ⟨d, hd⟩ : ∃ d, set.data.toList[k]? = some d := ⟨_, List.getElem?_eq_getElem hlt⟩
        have hgd : set[k] = d := Option.some.inj ((by rw [List.getElem?_eq_getElem hlt]; rfl : set.data.toList[k]? = some set[k]).symm.trans hd)
        have hbi : i < (bs l).size := by omega
        have hgc : (bs l)[i] = c := Option.some.inj ((by rw [List.getElem?_eq_getElem hi]; rfl : l[i]? = some (bs l)[i]).symm.trans HC.out)
        have hu := u8_beq d c
        obtain ⟨q, hq⟩ : ∃ q, q = (d == c) := ⟨_, rfl⟩
        rw [← hq] at hu
        have HQ := hid hq
        have HD := hid hd
        clear hq hd
        go_wp2_with fail
        refine wp_heldS (S := StillAt wr) (by kernel_rfl) ?_
        simp only [List.size_toArray, List.length_cons, List.length_nil, Nat.reduceAdd]
        intro hc
        have S0 : StillAt wr (Array.replicate 7 false) wr.drew := (Below.refl _ _).drew
        refine wpAnyS_take (i := 0) (v := .string set) rfl (by kernel_rfl) (by kernel_rfl) (by kernel_rfl) (fun _ _ _ h => h) (fun _ _ => Iff.rfl) hc (by first | rfl | simp [Region.wanted]) (fun wx hx => ?_) S0 (fun hc S0 => ?_)
        · go_simp
        try simp only [List.getElem_toArray, List.getElem_cons_zero, Act.put, List.setIfInBounds_toArray, List.set_cons_zero, List.set_cons_succ]
        refine wpAnyS_take (i := 1) (v := .int .i64 k) rfl (by kernel_rfl) (by kernel_rfl) (by kernel_rfl) (fun _ _ _ h => h) (fun _ _ => Iff.rfl) hc (by first | rfl | simp [Region.wanted]) (fun wx hx => ?_) S0 (fun hc S0 => ?_)
        · go_simp
        try simp only [List.getElem_toArray, List.getElem_cons_succ, List.getElem_cons_zero, Act.put, List.setIfInBounds_toArray, List.set_cons_zero, List.set_cons_succ]
        refine wpAnyS_take (i := 2) (v := .int .u8 d.toNat) rfl (by kernel_rfl) (by kernel_rfl) (by kernel_rfl) (fun _ _ _ h => h) (fun _ _ => Iff.rfl) hc (by first | rfl | simp [Region.wanted]) (fun wx hx => ?_) S0 (fun hc S0 => ?_)
        · go_simp
        try simp only [List.getElem_toArray, List.getElem_cons_succ, List.getElem_cons_zero, Act.put, List.setIfInBounds_toArray, List.set_cons_zero, List.set_cons_succ]
        refine wpAnyS_take (i := 3) (v := .string (bs l)) rfl (by kernel_rfl) (by kernel_rfl) (by kernel_rfl) (fun _ _ _ h => h) (fun _ _ => Iff.rfl) hc (by first | rfl | simp [Region.wanted]) (fun wx hx => ?_) S0 (fun hc S0 => ?_)
        · go_simp
        try simp only [List.getElem_toArray, List.getElem_cons_succ, List.getElem_cons_zero, Act.put, List.setIfInBounds_toArray, List.set_cons_zero, List.set_cons_succ]
        refine wpAnyS_take (i := 4) (v := .int .i64 i) rfl (by kernel_rfl) (by kernel_rfl) (by kernel_rfl) (fun _ _ _ h => h) (fun _ _ => Iff.rfl) hc (by first | rfl | simp [Region.wanted]) (fun wx hx => ?_) S0 (fun hc S0 => ?_)
        · go_simp
        try simp only [List.getElem_toArray, List.getElem_cons_succ, List.getElem_cons_zero, Act.put, List.setIfInBounds_toArray, List.set_cons_zero, List.set_cons_succ]
        refine wpAnyS_take (i := 5) (v := .int .u8 c.toNat) rfl (by kernel_rfl) (by kernel_rfl) (by kernel_rfl) (fun _ _ _ h => h) (fun _ _ => Iff.rfl) hc (by first | rfl | simp [Region.wanted]) (fun wx hx => ?_) S0 (fun hc S0 => ?_)
        · go_simp
        try simp only [List.getElem_toArray, List.getElem_cons_succ, List.getElem_cons_zero, Act.put, List.setIfInBounds_toArray, List.set_cons_zero, List.set_cons_succ]
        refine wpAnyS_one (i := 6) rfl (by kernel_rfl) (by rfl) hc (fun K' hK => ?_)
        go_simp
        refine hK.out _ _ (Below.refl _ _).drew (fun hc => ?_)
        clear hK K'
        have S0 : StillAt wr #[] wr.drew := (Below.refl _ _).drew
        try simp only [List.getElem_toArray, List.getElem_cons_succ, List.getElem_cons_zero, Act.put, List.setIfInBounds_toArray, List.set_cons_zero, List.set_cons_succ]
        refine wpAnyS_done (by kernel_rfl) ?_ _
        clear hc S0
        have HB := hid (HR.out.drew)
        cases q with
        | true =>
          have HE2 := hid (show Sc.among l i set.data.toList = true by
            rw [HE.out, List.contains_iff_mem]
            have := beq_iff_eq.1 HQ.out.symm
            rw [← this]
            exact List.mem_of_getElem? HD.out)
          go_wp2_with fail
          go_ret
          exact ⟨by rw [HE2.out]; rfl, HB.out⟩
        | false =>
          have HK2 := hid (contains_step HD.out HK.out (beq_eq_false_iff_ne.1 HQ.out.symm))
          go_wp2_with fail
          go_roundw
          case rel =>
            exact ⟨k + 1, by omega, by go_num, HK2, HB⟩
          case measure => simp [RowKit.intOf]; omega
      · have hk1 : ¬ (k : Int) < (set.size : Int) := by omega
        have HE2 := hid (show Sc.among l i set.data.toList = false by rw [HE.out]; exact contains_no hk HK.out hlt)
        go_wp2_with fail
        go_ret
        exact ⟨by rw [HE2.out]; rfl, HR.out⟩
  · have hge : decide (l.length ≤ i) = true := decide_eq_true (by omega)
    have HE2 := hid (show Sc.among l i set.data.toList = false by unfold Sc.among; rw [List.getElem?_eq_none (by omega)])
    clear hi
    go_enter Tryz.func71, Tryz.ntmps71
    go_wp2_with fail
    go_ret
    exact ⟨by rw [HE2.out]; rfl, Below.refl _ _⟩

/-- among, at the letters that the program names -/
theorem among_drop (s : List UInt8) (i j : Nat) (set : List UInt8) : Sc.among s (i + j) set = Sc.among (s.drop i) j set := by
  unfold Sc.among
  rw [List.getElem?_drop]
theorem among_cased (s : List UInt8) : Sc.among s 0 (Sc.small ++ Sc.caps) = Sc.among (s.map Sc.low) 0 Sc.small := by
  unfold Sc.among
  cases s with
  | nil => rfl
  | cons c s =>
    simp only [List.getElem?_cons_zero, List.map_cons]
    have h : ∀ n : Fin 256, (Sc.small ++ Sc.caps).contains (UInt8.ofFin n) = Sc.small.contains (Sc.low (UInt8.ofFin n)) := by decide +kernel
    have := h c.toFin
    simpa using this

theorem vow_ons {s : List UInt8} (h : Sc.among s 0 Sc.vow = true) : Sc.among s 0 Sc.ons = false := by
  unfold Sc.among at *
  cases s with
  | nil => cases h
  | cons c s =>
    simp only [List.getElem?_cons_zero] at *
    have : ∀ n : Fin 256, Sc.vow.contains (UInt8.ofFin n) = true → Sc.ons.contains (UInt8.ofFin n) = false := by decide +kernel
    exact this c.toFin (by simpa using h)
/-- lengths, of what is known of the letters -/
theorem len_1 {s : List UInt8} {b : Bool} (h : b = Sc.among s 0 Sc.small) : Sc.len 1 s = if b = true then 1 else 0 := by unfold Sc.len; rw [h, if_pos rfl]
theorem len_2 {s : List UInt8} {b d : Bool} (h : b = Sc.among s 0 (Sc.small ++ Sc.caps)) (h2 : d = Sc.among s 1 Sc.acc) : Sc.len 2 s = if b = true then (if d = true then 2 else 1) else 0 := by
  unfold Sc.len; rw [h, h2, among_cased, if_neg (by decide), if_pos rfl]
theorem len_3 {s : List UInt8} {b : Bool} (h : b = Sc.among s 0 Sc.abj) : Sc.len 3 s = if b = true then 1 else 0 := by unfold Sc.len; rw [h, if_neg (by decide), if_neg (by decide), if_pos rfl]
theorem len_4 {s : List UInt8} {a b c d : Bool} (h : a = Sc.among s 0 Sc.vow) (h2 : b = Sc.among s 0 Sc.ons) (h3 : c = Sc.among s 1 Sc.vow) (h4 : d = Sc.among s 0 [110]) : Sc.len 4 s = if a = true then 1 else if (b && c) = true then 2 else if d = true then 1 else 0 := by
  unfold Sc.len; rw [if_neg (by decide), if_neg (by decide), if_neg (by decide), if_pos rfl, ← h, ← h2, ← h3, ← h4]
  cases a with
  | false => cases b <;> cases c <;> cases d <;> rfl
  | true =>
    have := vow_ons h.symm
    rw [← h2] at this
    rw [this]; rfl
theorem len_0 {s : List UInt8} {k : Int} (h1 : k ≠ 1) (h2 : k ≠ 2) (h3 : k ≠ 3) (h4 : k ≠ 4) : Sc.len k s = 0 := by unfold Sc.len; rw [if_neg h1, if_neg h2, if_neg h3, if_neg h4]

set_option maxRecDepth 100000 in
set_option maxHeartbeats 4000000 in
theorem rlength_any (k : Int) (l : List UInt8) (i : Nat) (w : World) (hi : i ≤ l.length) (hl : l.length ≤ 4611686018427387904) : Calls Tryz.prog 60 #[.int .i64 k, .string (bs l), .int .i64 i] w (Gives (.int .i64 (Sc.len k (l.drop i))) w) := by
  by_cases hk : k = 1
  · subst hk
    obtain ⟨b0, hb0⟩ : ∃ b, b = Sc.among (l.drop i) 0 Sc.small := ⟨_, rfl⟩
    have HA : Hid (∀ W, Calls Tryz.prog 71 #[.string (bs l), .int .i64 (i : Int), .string ⟨#[97, 98, 99, 100, 101, 102, 103, 104, 105, 106, 107, 108, 109, 110, 111, 112, 113, 114, 115, 116, 117, 118, 119, 120, 121, 122]⟩] W (Gives (.bool b0) W)) := fun W => by
      have h := ramong_any l i ⟨#[97, 98, 99, 100, 101, 102, 103, 104, 105, 106, 107, 108, 109, 110, 111, 112, 113, 114, 115, 116, 117, 118, 119, 120, 121, 122]⟩ W (by decide) (by omega)
      rw [show Sc.among l i (⟨#[97, 98, 99, 100, 101, 102, 103, 104, 105, 106, 107, 108, 109, 110, 111, 112, 113, 114, 115, 116, 117, 118, 119, 120, 121, 122]⟩ : ByteArray).data.toList = b0 by rw [hb0]; exact among_drop l i 0 _] at h
      exact h
    have HL := hid (len_1 hb0)
    clear hb0
    go_enter Tryz.func60, Tryz.ntmps60
    go_wp2_with fail
    refine (HA.out _).mono ?_
    rintro e w1 ⟨rfl, hbw1⟩
    have HBw1 := hid (hbw1)
    clear hbw1
    cases b0 with
    | true =>
      have HE := HL
      go_wp2_with fail
      go_ret
      exact ⟨by rw [HE.out]; rfl, HBw1.out⟩
    | false =>
      have HE := HL
      go_wp2_with fail
      go_ret
      exact ⟨by rw [HE.out]; rfl, HBw1.out⟩
  have HK1 := hid hk
  clear hk
  by_cases hk : k = 2
  · subst hk
    obtain ⟨b0, hb0⟩ : ∃ b, b = Sc.among (l.drop i) 0 (Sc.small ++ Sc.caps) := ⟨_, rfl⟩
    have HA : Hid (∀ W, Calls Tryz.prog 71 #[.string (bs l), .int .i64 (i : Int), .string ⟨#[97, 98, 99, 100, 101, 102, 103, 104, 105, 106, 107, 108, 109, 110, 111, 112, 113, 114, 115, 116, 117, 118, 119, 120, 121, 122, 65, 66, 67, 68, 69, 70, 71, 72, 73, 74, 75, 76, 77, 78, 79, 80, 81, 82, 83, 84, 85, 86, 87, 88, 89, 90]⟩] W (Gives (.bool b0) W)) := fun W => by
      have h := ramong_any l i ⟨#[97, 98, 99, 100, 101, 102, 103, 104, 105, 106, 107, 108, 109, 110, 111, 112, 113, 114, 115, 116, 117, 118, 119, 120, 121, 122, 65, 66, 67, 68, 69, 70, 71, 72, 73, 74, 75, 76, 77, 78, 79, 80, 81, 82, 83, 84, 85, 86, 87, 88, 89, 90]⟩ W (by decide) (by omega)
      rw [show Sc.among l i (⟨#[97, 98, 99, 100, 101, 102, 103, 104, 105, 106, 107, 108, 109, 110, 111, 112, 113, 114, 115, 116, 117, 118, 119, 120, 121, 122, 65, 66, 67, 68, 69, 70, 71, 72, 73, 74, 75, 76, 77, 78, 79, 80, 81, 82, 83, 84, 85, 86, 87, 88, 89, 90]⟩ : ByteArray).data.toList = b0 by rw [hb0]; exact among_drop l i 0 _] at h
      exact h
    obtain ⟨b1, hb1⟩ : ∃ b, b = Sc.among (l.drop i) 1 Sc.acc := ⟨_, rfl⟩
    have HA1 : Hid (∀ W, Calls Tryz.prog 71 #[.string (bs l), .int .i64 ((i : Int) + 1), .string ⟨#[39, 96, 94]⟩] W (Gives (.bool b1) W)) := fun W => by
      have h := ramong_any l (i + 1) ⟨#[39, 96, 94]⟩ W (by decide) (by omega)
      rw [show Sc.among l (i + 1) (⟨#[39, 96, 94]⟩ : ByteArray).data.toList = b1 by rw [hb1]; exact among_drop l i 1 _] at h
      exact h
    have HL := hid (len_2 hb0 hb1)
    clear hb0 hb1
    go_enter Tryz.func60, Tryz.ntmps60
    go_wp2_with fail
    refine (HA.out _).mono ?_
    rintro e w1 ⟨rfl, hbw1⟩
    have HBw1 := hid (hbw1)
    clear hbw1
    cases b0 with
    | true =>
      go_wp2_with fail
      refine (HA1.out _).mono ?_
      rintro e w2 ⟨rfl, hbw2⟩
      have HBw2 := hid (Below.step HBw1.out hbw2)
      clear hbw2
      cases b1 with
      | true =>
        have HE := HL
        go_wp2_with fail
        go_ret
        exact ⟨by rw [HE.out]; rfl, HBw2.out⟩
      | false =>
        have HE := HL
        go_wp2_with fail
        go_ret
        exact ⟨by rw [HE.out]; rfl, HBw2.out⟩
    | false =>
      have HE := HL
      go_wp2_with fail
      go_ret
      exact ⟨by rw [HE.out]; rfl, HBw1.out⟩
  have HK2 := hid hk
  clear hk
  by_cases hk : k = 3
  · subst hk
    obtain ⟨b0, hb0⟩ : ∃ b, b = Sc.among (l.drop i) 0 Sc.abj := ⟨_, rfl⟩
    have HA : Hid (∀ W, Calls Tryz.prog 71 #[.string (bs l), .int .i64 (i : Int), .string ⟨#[98, 100, 102, 103, 104, 106, 107, 108, 109, 110, 112, 113, 114, 115, 116, 119, 120, 121, 122, 39]⟩] W (Gives (.bool b0) W)) := fun W => by
      have h := ramong_any l i ⟨#[98, 100, 102, 103, 104, 106, 107, 108, 109, 110, 112, 113, 114, 115, 116, 119, 120, 121, 122, 39]⟩ W (by decide) (by omega)
      rw [show Sc.among l i (⟨#[98, 100, 102, 103, 104, 106, 107, 108, 109, 110, 112, 113, 114, 115, 116, 119, 120, 121, 122, 39]⟩ : ByteArray).data.toList = b0 by rw [hb0]; exact among_drop l i 0 _] at h
      exact h
    have HL := hid (len_3 hb0)
    clear hb0
    go_enter Tryz.func60, Tryz.ntmps60
    go_wp2_with fail
    refine (HA.out _).mono ?_
    rintro e w1 ⟨rfl, hbw1⟩
    have HBw1 := hid (hbw1)
    clear hbw1
    cases b0 with
    | true =>
      have HE := HL
      go_wp2_with fail
      go_ret
      exact ⟨by rw [HE.out]; rfl, HBw1.out⟩
    | false =>
      have HE := HL
      go_wp2_with fail
      go_ret
      exact ⟨by rw [HE.out]; rfl, HBw1.out⟩
  have HK3 := hid hk
  clear hk
  by_cases hk : k = 4
  · subst hk
    obtain ⟨a0, ha0⟩ : ∃ b, b = Sc.among (l.drop i) 0 Sc.vow := ⟨_, rfl⟩
    have HA : Hid (∀ W, Calls Tryz.prog 71 #[.string (bs l), .int .i64 (i : Int), .string ⟨#[97, 105, 117, 101, 111]⟩] W (Gives (.bool a0) W)) := fun W => by
      have h := ramong_any l i ⟨#[97, 105, 117, 101, 111]⟩ W (by decide) (by omega)
      rw [show Sc.among l i (⟨#[97, 105, 117, 101, 111]⟩ : ByteArray).data.toList = a0 by rw [ha0]; exact among_drop l i 0 _] at h
      exact h
    obtain ⟨b0, hb0⟩ : ∃ b, b = Sc.among (l.drop i) 0 Sc.ons := ⟨_, rfl⟩
    have HA1 : Hid (∀ W, Calls Tryz.prog 71 #[.string (bs l), .int .i64 (i : Int), .string ⟨#[107, 115, 116, 110, 104, 109, 121, 114, 119, 103, 122, 100, 98, 112]⟩] W (Gives (.bool b0) W)) := fun W => by
      have h := ramong_any l i ⟨#[107, 115, 116, 110, 104, 109, 121, 114, 119, 103, 122, 100, 98, 112]⟩ W (by decide) (by omega)
      rw [show Sc.among l i (⟨#[107, 115, 116, 110, 104, 109, 121, 114, 119, 103, 122, 100, 98, 112]⟩ : ByteArray).data.toList = b0 by rw [hb0]; exact among_drop l i 0 _] at h
      exact h
    obtain ⟨c0, hc0⟩ : ∃ b, b = Sc.among (l.drop i) 1 Sc.vow := ⟨_, rfl⟩
    have HA2 : Hid (∀ W, Calls Tryz.prog 71 #[.string (bs l), .int .i64 ((i : Int) + 1), .string ⟨#[97, 105, 117, 101, 111]⟩] W (Gives (.bool c0) W)) := fun W => by
      have h := ramong_any l (i + 1) ⟨#[97, 105, 117, 101, 111]⟩ W (by decide) (by omega)
      rw [show Sc.among l (i + 1) (⟨#[97, 105, 117, 101, 111]⟩ : ByteArray).data.toList = c0 by rw [hc0]; exact among_drop l i 1 _] at h
      exact h
    obtain ⟨d0, hd0⟩ : ∃ b, b = Sc.among (l.drop i) 0 [110] := ⟨_, rfl⟩
    have HA3 : Hid (∀ W, Calls Tryz.prog 71 #[.string (bs l), .int .i64 (i : Int), .string ⟨#[110]⟩] W (Gives (.bool d0) W)) := fun W => by
      have h := ramong_any l i ⟨#[110]⟩ W (by decide) (by omega)
      rw [show Sc.among l i (⟨#[110]⟩ : ByteArray).data.toList = d0 by rw [hd0]; exact among_drop l i 0 _] at h
      exact h
    have HL := hid (len_4 ha0 hb0 hc0 hd0)
    clear ha0 hb0 hc0 hd0
    go_enter Tryz.func60, Tryz.ntmps60
    go_wp2_with fail
    refine (HA.out _).mono ?_
    rintro e w1 ⟨rfl, hbw1⟩
    have HBw1 := hid (hbw1)
    clear hbw1
    cases a0 with
    | true =>
      have HE := HL
      go_wp2_with fail
      go_ret
      exact ⟨by rw [HE.out]; rfl, HBw1.out⟩
    | false =>
      go_wp2_with fail
      refine (HA1.out _).mono ?_
      rintro e w2 ⟨rfl, hbw2⟩
      have HBw2 := hid (Below.step HBw1.out hbw2)
      clear hbw2
      cases b0 with
      | true =>
        go_wp2_with fail
        refine (HA2.out _).mono ?_
        rintro e w3 ⟨rfl, hbw3⟩
        have HBw3 := hid (Below.step HBw2.out hbw3)
        clear hbw3
        cases c0 with
        | true =>
          have HE := HL
          go_wp2_with fail
          go_ret
          exact ⟨by rw [HE.out]; rfl, HBw3.out⟩
        | false =>
          go_wp2_with fail
          refine (HA3.out _).mono ?_
          rintro e w4 ⟨rfl, hbw4⟩
          have HBw4 := hid (Below.step HBw3.out hbw4)
          clear hbw4
          cases d0 with
          | true =>
            have HE := HL
            go_wp2_with fail
            go_ret
            exact ⟨by rw [HE.out]; rfl, HBw4.out⟩
          | false =>
            have HE := HL
            go_wp2_with fail
            go_ret
            exact ⟨by rw [HE.out]; rfl, HBw4.out⟩
      | false =>
        go_wp2_with fail
        refine (HA3.out _).mono ?_
        rintro e w4 ⟨rfl, hbw4⟩
        have HBw4 := hid (Below.step HBw2.out hbw4)
        clear hbw4
        cases d0 with
        | true =>
          have HE := HL
          go_wp2_with fail
          go_ret
          exact ⟨by rw [HE.out]; rfl, HBw4.out⟩
        | false =>
          have HE := HL
          go_wp2_with fail
          go_ret
          exact ⟨by rw [HE.out]; rfl, HBw4.out⟩
  have k1 : (k == 1) = false := beq_eq_false_iff_ne.2 HK1.out
  have k2 : (k == 2) = false := beq_eq_false_iff_ne.2 HK2.out
  have k3 : (k == 3) = false := beq_eq_false_iff_ne.2 HK3.out
  have k4 : (k == 4) = false := beq_eq_false_iff_ne.2 hk
  have HE := hid (len_0 (s := l.drop i) HK1.out HK2.out HK3.out hk)
  clear hk
  go_enter Tryz.func60, Tryz.ntmps60
  go_wp2_with fail
  go_ret
  exact ⟨by rw [HE.out]; rfl, Below.refl _ _⟩

end Go.Proofs.YthibphklchalkaaGreatDoor

namespace Go.Proofs.YthibphklchalkaaGreatDoor
open Go.RowKit Go.Lib Go.Maps

theorem Tryz.infoStrRr : (Tryz.prog.info? 9).map (fun i => (i.zero, i.size, i.bytes)) = some (some (.string ⟨#[]⟩), 1, 16) := by kernel_rfl
theorem Tryz.infoU8r : (Tryz.prog.info? 5).map (fun i => (i.zero, i.size, i.bytes)) = some (some (.int .u8 0), 1, 1) := by kernel_rfl

/-- the letters of a word so far -/
def RLs (k : Int) (l : List UInt8) (i : Nat) (ls : List (List UInt8)) : Prop := Sc.cuts k l = (ls ++ (Sc.cuts k (l.drop i)).1, (Sc.cuts k (l.drop i)).2) ∧ ls.length ≤ 12
theorem RLs.start (k : Int) (l : List UInt8) : RLs k l 0 [] := ⟨by rw [List.drop_zero]; rfl, by simp⟩
theorem RLs.step {k : Int} {l : List UInt8} {i : Nat} {ls : List (List UInt8)} (h : RLs k l i ls) (h0 : Sc.len k (l.drop i) ≠ 0) (h12 : ls.length ≠ 12) : RLs k l (i + Sc.len k (l.drop i)) (ls ++ [(l.drop i).take (Sc.len k (l.drop i))]) := by
  refine ⟨?_, by rw [List.length_append]; have := h.2; simp; omega⟩
  rw [h.1, Sc.cuts_step h0, List.drop_drop, List.append_assoc]
  rfl
theorem RLs.stop {k : Int} {l : List UInt8} {i : Nat} {ls : List (List UInt8)} (h : RLs k l i ls) (hi : i < l.length) (h0 : Sc.len k (l.drop i) = 0 ∨ ls.length = 12) : Sc.lets k l = none := by
  unfold Sc.lets
  rw [if_neg]
  rintro ⟨h1, h2, h3⟩
  rw [h.1] at h1 h3
  simp only at h1 h3
  by_cases hz : Sc.len k (l.drop i) = 0
  · rw [Sc.cuts_stop hz] at h1
    have := congrArg List.length h1
    simp at this
    omega
  · rw [Sc.cuts_step hz, List.length_append] at h3
    simp at h3
    omega
theorem RLs.done {k : Int} {l : List UInt8} {i : Nat} {ls : List (List UInt8)} (h : RLs k l i ls) (hi : ¬ i < l.length) : Sc.lets k l = if ls = [] then none else some ls := by
  have hd : l.drop i = [] := List.drop_eq_nil_of_le (by omega)
  have hc : Sc.cuts k l = (ls, []) := by rw [h.1, hd]; simp [Sc.cuts, Sc.cut]
  unfold Sc.lets
  rw [hc]
  by_cases hl : ls = []
  · rw [if_pos hl, if_neg (by simp [hl])]
  · rw [if_neg hl, if_pos ⟨rfl, hl, h.2⟩]

/-- what Letters ends in -/
def RLeP (k : Int) (l : List UInt8) (w : World) (e : Ending) (w' : World) : Prop :=
  match Sc.lets k l with
  | none => e = .returned (.tuple #[.slice none 0 0, .int .i64 1]) ∧ Below w.heap.size w w'
  | some ls => ∃ v, e = .returned (.tuple #[v, .int .i64 0]) ∧ w'.ownsRow w.heap.size 9 1 v ls.length (ls.flatMap strC) ∧ Below w.heap.size w w'

set_option maxRecDepth 100000 in
set_option maxHeartbeats 4000000 in
theorem rletters_any (k : Int) (l : List UInt8) (w : World) (hl : l.length ≤ 4611686018427387904) : Calls Tryz.prog 40 #[.int .i64 k, .string (bs l)] w (RLeP k l w) := by
  obtain ⟨i0, hi, hz0, hz1, hz2⟩ := info_parts Tryz.infoStrRr
  have hbl := bs_len l
  go_enter Tryz.func40, Tryz.ntmps40
  go_wp2_with fail
  go_loopw [6, 7] (fun ov iv wr => ∃ (i : Nat) (mv : Value) (ls : List (List UInt8)), i ≤ l.length ∧ iv = .int .i64 i ∧ mv = ov ∧ Hid (wr.ownsRow w.heap.size 9 1 mv ls.length (ls.flatMap strC)) ∧ Hid (RLs k l i ls) ∧ Hid (Below w.heap.size w wr)) (fun _ iv _ => l.length - (RowKit.intOf iv).toNat)
  case atStart => exact ⟨0, _, [], Nat.zero_le _, rfl, rfl, World.ownsRow_nil _ _ _ _, RLs.start k l, Below.refl _ _⟩
  case round =>
    obtain ⟨i, ov, ls, hi_, rfl, rfl, HO, HS, HR⟩ := hrel
    obtain ⟨oa, oc, rfl⟩ := ownsRow_slice HO.out
    have h12 := HS.out.2
    by_cases hlt : i < l.length
    · have HLE := hid (rlength_any k l i wr (by omega) hl)
      obtain ⟨n, hn⟩ : ∃ n, n = Sc.len k (l.drop i) := ⟨_, rfl⟩
      rw [← hn] at HLE
      have hnl := Sc.len_le k (l.drop i)
      rw [← hn, List.length_drop] at hnl
      have HN := hid hn
      clear hn
      go_wp2_with fail
      refine (HLE.out).mono ?_
      rintro e w2 ⟨rfl, hb2⟩
      have HB2 := hid hb2
      have HBT := hid (Below.step HR.out hb2)
      clear hb2
      by_cases hz : n = 0
      · have HE := hid (HS.out.stop hlt (.inl (by rw [← HN.out]; exact hz)))
        have g1 : ((n : Int) == 0) = true := by rw [hz]; rfl
        clear hz
        go_wp2_with fail
        go_ret2
        unfold RLeP; rw [HE.out]; exact ⟨rfl, HBT.out⟩
      · have g1 : ((n : Int) == 0) = false := by rw [beq_eq_false_iff_ne]; omega
        by_cases hm : ls.length = 12
        · have HE := hid (HS.out.stop hlt (.inr hm))
          have g2 : ((ls.length : Int) == 12) = true := by rw [hm]; rfl
          clear hz hm
          go_wp2_with fail
          go_ret2
          unfold RLeP; rw [HE.out]; exact ⟨rfl, HBT.out⟩
        · have g2 : ((ls.length : Int) == 12) = false := by rw [beq_eq_false_iff_ne]; omega
          have HS2 := hid (HS.out.step (by rw [← HN.out]; exact hz) hm)
          rw [← HN.out] at HS2
          have x2 : (bs l).extract i (i + n) = bs ((l.drop i).take n) := by
            rw [extract_bs, show i + n - i = n by omega]
            rfl
          obtain ⟨x, hx⟩ : ∃ x, x = (l.drop i).take n := ⟨_, rfl⟩
          rw [← hx] at x2 HS2
          have hown2 := (ownsRow_below HO.out HB2.out).alloc (.cells #[.string (bs x)] 9)
          have hz2' := HBT.out.size
          clear hx hm
          go_wp2_with (at_builtin; refine wpList_append_own _ rfl _ _ 36 rfl w.heap.size 9 i0 (.string ⟨#[]⟩) 1 16 Tryz.underlying36 hi hz0 hz1 hz2 rfl (by decide) _ _ _ rfl hown2 ⟨w2.heap.size, 0, none⟩ 1 1 [.string (bs x)] rfl rfl (cells_new rfl) (by simp [Value.oneCell']) (by unfold maxLen; omega) (by omega) (by simp; omega) ?_; intro v' w4 ho4 hg4 _)
          go_roundw
          case rel =>
            refine ⟨i + n, _, ls ++ [x], by omega, by go_num, rfl, ?_, HS2, Below.appended (HBT.out.alloc hz2' _) hg4 (by simp; omega) hown2⟩
            rw [List.length_append, List.flatMap_append]
            exact ho4
          case measure => simp [RowKit.intOf]; omega
    · have HE := hid (HS.out.done hlt)
      cases ls with
      | nil =>
        rw [if_pos rfl] at HE
        go_wp2_with fail
        go_ret2
        unfold RLeP; rw [HE.out]; exact ⟨rfl, HR.out⟩
      | cons x ls =>
        rw [if_neg (by simp)] at HE
        have g1 : (((x :: ls).length : Int) == 0) = false := by rw [beq_eq_false_iff_ne]; simp; omega
        go_wp2_with fail
        go_ret2
        unfold RLeP; rw [HE.out]; exact ⟨_, rfl, HO.out, HR.out⟩

set_option maxRecDepth 100000 in
theorem rword_any (k : Int) (l : List UInt8) (w : World) (hl : l.length ≤ 4611686018427387904) : Calls Tryz.prog 59 #[.int .i64 k, .string (bs l)] w (Gives (.bool (Sc.lets k l).isSome) w) := by
  have HL := hid (rletters_any k l w hl)
  go_enter Tryz.func59, Tryz.ntmps59
  go_wp2_with fail
  refine (HL.out).mono ?_
  rintro e w2 h2
  unfold RLeP at h2
  cases hs : Sc.lets k l with
  | none =>
    rw [hs] at h2
    obtain ⟨rfl, hb⟩ := h2
    have HB := hid hb
    have HS := hid hs
    clear hb hs
    go_wp2_with fail
    go_ret
    exact ⟨by rw [HS.out]; rfl, HB.out⟩
  | some ls =>
    rw [hs] at h2
    obtain ⟨v, rfl, -, hb⟩ := h2
    have HB := hid hb
    have HS := hid hs
    clear hb hs
    go_wp2_with fail
    go_ret
    exact ⟨by rw [HS.out]; rfl, HB.out⟩

theorem form_no {l : List UInt8} {i : Nat} {c : UInt8} (hc : l[i]? = some c) (h : ¬ c ∈ Sc.small) : Rw.isForm l = false := by
  unfold Rw.isForm
  have : l.all Sc.small.contains = false := by
    rw [Bool.eq_false_iff]
    intro ha
    rw [List.all_eq_true] at ha
    exact h (List.contains_iff_mem.1 (ha c (List.mem_of_getElem? hc)))
  rw [this, Bool.and_false]
theorem form_step {l : List UInt8} {i : Nat} {c : UInt8} (hc : l[i]? = some c) (h : (l.take i).all Sc.small.contains = true) (hm : c ∈ Sc.small) : (l.take (i + 1)).all Sc.small.contains = true := by
  rw [List.take_add_one, hc, List.all_append, h]
  simpa using hm

set_option maxRecDepth 100000 in
theorem rcost_any (n : Int) (w : World) : Calls Tryz.prog 56 #[.int .i64 n] w (Gives (.bool (Rw.isCost n)) w) := by
  by_cases h0 : 0 ≤ n
  · have g0 : decide (0 ≤ n) = true := decide_eq_true h0
    have HE := hid (show Rw.isCost n = decide (n ≤ 1000) by unfold Rw.isCost; rw [g0]; rfl)
    go_enter Tryz.func56, Tryz.ntmps56
    go_wp2_with fail
    go_ret
    exact ⟨ret_bool HE.out.symm, Below.refl _ _⟩
  · have g0 : decide (0 ≤ n) = false := decide_eq_false h0
    have HE := hid (show Rw.isCost n = false by unfold Rw.isCost; rw [g0]; rfl)
    go_enter Tryz.func56, Tryz.ntmps56
    go_wp2_with fail
    go_ret
    exact ⟨ret_bool HE.out.symm, Below.refl _ _⟩

/-- a text's bytes, up to a place -/
theorem fold_take {s : List UInt8} {i : Nat} {c : UInt8} (h : s[i]? = some c) : Sc.fold (s.take (i + 1)) = Sc.fold (s.take i) ++ [Sc.low c] := by
  have ht : s.take (i + 1) = s.take i ++ [c] := by
    obtain ⟨h1, h2⟩ := List.getElem?_eq_some_iff.1 h
    rw [List.take_succ_eq_append_getElem h1, h2]
  rw [ht]
  unfold Sc.fold
  rw [List.map_append]
  rfl

/-- a byte's cell -/
def u8C (c : UInt8) : List Value := [.int .u8 (c.toNat : Int)]
theorem u8C_flat (l : List UInt8) : l.flatMap u8C = byteCells l := by
  unfold byteCells u8C
  induction l with
  | nil => rfl
  | cons c l ih => rw [List.flatMap_cons, ih]; rfl
/-- an own row of bytes, as a text -/
theorem conv_row {P : Program} {w : World} {B : Nat} {src dst e : TypeId} {v : Value} {l : List UInt8} (hs : P.underlying src = some (.slice e)) (he : P.underlying e = some (.int .u8)) (hd : P.underlying dst = some .string) (h : w.ownsRow B e 1 v l.length (l.flatMap u8C)) : (convert src dst v).run P w = .ok (.string (bs l)) w := by
  rcases h.2 with ⟨rfl, h0⟩ | ⟨g, cap, cur, rfl, -, hg, -, -, -, ht⟩
  · rw [run_convert_nil_bytes w src dst e 0 hs he hd]
    have : l = [] := by cases l with | nil => rfl | cons c l => cases h0
    rw [this]
    rfl
  · rw [Nat.mul_one, u8C_flat] at ht
    exact run_convert_bytes_back w src dst e ⟨g, 0, none⟩ cap l hs he hd (bytes_of_row hg ht)

set_option maxRecDepth 100000 in
set_option maxHeartbeats 4000000 in
theorem rfold_any (k : Int) (l : List UInt8) (w : World) (hl : l.length ≤ 1000000) : Calls Tryz.prog 39 #[.int .i64 k, .string (bs l)] w (FoldPost k l w) := by
  have hbl := bs_len l
  have HW := hid (rword_any k l w (by omega))
  cases hs : Sc.lets k l with
  | none =>
    rw [hs] at HW
    have HS := hid hs
    clear hs
    go_enter Tryz.func39, Tryz.ntmps39
    go_wp2_with fail
    refine (HW.out).mono ?_
    rintro e w1 ⟨rfl, hb1⟩
    have HB := hid hb1
    clear hb1
    go_wp2_with fail
    go_ret2
    unfold FoldPost; rw [HS.out]; exact ⟨rfl, HB.out⟩
  | some ls =>
    rw [hs] at HW
    have HS := hid hs
    clear hs
    obtain ⟨i0, hi, hz0, hz1, hz2⟩ := info_parts Tryz.infoU8r
    go_enter Tryz.func39, Tryz.ntmps39
    go_wp2_with fail
    refine (HW.out).mono ?_
    rintro e w1 ⟨rfl, hb1⟩
    have HB := hid hb1
    clear hb1
    go_wp2_with fail
    go_loopw [6, 7] (fun ov iv wr => ∃ (i : Nat), i ≤ l.length ∧ iv = .int .i64 i ∧ Hid (wr.ownsRow w.heap.size 5 1 ov i ((Sc.fold (l.take i)).flatMap u8C)) ∧ Hid (Below w.heap.size w wr)) (fun _ iv _ => l.length - (RowKit.intOf iv).toNat)
    case atStart =>
      have hz := HB.out.size
      refine ⟨0, Nat.zero_le _, rfl, ?_, HB.out.alloc hz _⟩
      refine hid ⟨rfl, .inr ⟨_, _, _, rfl, hz, heap_alloc_new _ _, Nat.le_refl _, by unfold maxLen; omega, rfl, rfl⟩⟩
    case round =>
      obtain ⟨i, hi_, rfl, HO, HR⟩ := hrel
      obtain ⟨oa, oc, hov⟩ := ownsRow_slice HO.out
      subst hov
      by_cases hlt : i < l.length
      · obtain ⟨c, hc⟩ : ∃ c, l[i]? = some c := ⟨_, List.getElem?_eq_getElem hlt⟩
        have hgi : i < (bs l).size := by omega
        have hgc : (bs l)[i] = c := Option.some.inj ((by rw [List.getElem?_eq_getElem hlt]; rfl : l[i]? = some (bs l)[i]).symm.trans hc)
        have hi0 : (0 : Int) ≤ (i : Int) := by omega
        have hi1 : (i : Int) < (l.length : Int) := by omega
        have HT := hid (fold_take hc)
        have hzR := HR.out.size
        clear hc
        by_cases h65 : 65 ≤ c.toNat
        · have g1 : decide (65 ≤ c.toNat) = true := decide_eq_true h65
          by_cases h90 : c.toNat ≤ 90
          · have g2 : decide (c.toNat ≤ 90) = true := decide_eq_true h90
            have HLO := hid (show ((Sc.low c).toNat : Int) = (c.toNat : Int) + 32 by rw [Sc.low_nat, if_pos ⟨h65, h90⟩]; omega)
            have hown2 := (HO.out).alloc (.cells #[.int .u8 ((c.toNat : Int) + 32)] 5)
            go_wp2_with (at_builtin; refine wpList_append_own _ rfl _ _ 119 rfl w.heap.size 5 i0 (.int .u8 0) 1 1 Tryz.underlying119 hi hz0 hz1 hz2 rfl (by decide) _ _ _ rfl hown2 ⟨wr.heap.size, 0, none⟩ 1 1 [.int .u8 ((c.toNat : Int) + 32)] rfl rfl (cells_new rfl) (by simp [Value.oneCell']) (by unfold maxLen; omega) (by omega) (by simp; omega) ?_; intro v' w4 ho4 hg4 _)
            go_roundw
            case rel =>
              refine ⟨i + 1, by omega, by go_num, ?_, Below.appended (HR.out.alloc hzR _) hg4 (by simp; omega) hown2⟩
              rw [HT.out, List.flatMap_append]
              refine hid ?_; simpa [u8C, HLO.out] using ho4
            case measure => simp [RowKit.intOf]; omega
          · have g2 : decide (c.toNat ≤ 90) = false := decide_eq_false h90
            have HLO := hid (show ((Sc.low c).toNat : Int) = (c.toNat : Int) by rw [Sc.low_nat, if_neg (by omega)])
            have hown2 := (HO.out).alloc (.cells #[.int .u8 ((c.toNat : Int))] 5)
            go_wp2_with (at_builtin; refine wpList_append_own _ rfl _ _ 119 rfl w.heap.size 5 i0 (.int .u8 0) 1 1 Tryz.underlying119 hi hz0 hz1 hz2 rfl (by decide) _ _ _ rfl hown2 ⟨wr.heap.size, 0, none⟩ 1 1 [.int .u8 ((c.toNat : Int))] rfl rfl (cells_new rfl) (by simp [Value.oneCell']) (by unfold maxLen; omega) (by omega) (by simp; omega) ?_; intro v' w4 ho4 hg4 _)
            go_roundw
            case rel =>
              refine ⟨i + 1, by omega, by go_num, ?_, Below.appended (HR.out.alloc hzR _) hg4 (by simp; omega) hown2⟩
              rw [HT.out, List.flatMap_append]
              refine hid ?_; simpa [u8C, HLO.out] using ho4
            case measure => simp [RowKit.intOf]; omega
        · have g1 : decide (65 ≤ c.toNat) = false := decide_eq_false h65
          have HLO := hid (show ((Sc.low c).toNat : Int) = (c.toNat : Int) by rw [Sc.low_nat, if_neg (by omega)])
          have hown2 := (HO.out).alloc (.cells #[.int .u8 ((c.toNat : Int))] 5)
          go_wp2_with (at_builtin; refine wpList_append_own _ rfl _ _ 119 rfl w.heap.size 5 i0 (.int .u8 0) 1 1 Tryz.underlying119 hi hz0 hz1 hz2 rfl (by decide) _ _ _ rfl hown2 ⟨wr.heap.size, 0, none⟩ 1 1 [.int .u8 ((c.toNat : Int))] rfl rfl (cells_new rfl) (by simp [Value.oneCell']) (by unfold maxLen; omega) (by omega) (by simp; omega) ?_; intro v' w4 ho4 hg4 _)
          go_roundw
          case rel =>
            refine ⟨i + 1, by omega, by go_num, ?_, Below.appended (HR.out.alloc hzR _) hg4 (by simp; omega) hown2⟩
            rw [HT.out, List.flatMap_append]
            refine hid ?_; simpa [u8C, HLO.out] using ho4
          case measure => simp [RowKit.intOf]; omega
      · have hii : i = l.length := by omega
        subst hii
        rw [List.take_length] at HO
        rw [show wr.ownsRow w.heap.size 5 1 (.slice oa l.length oc) l.length ((Sc.fold l).flatMap u8C) = wr.ownsRow w.heap.size 5 1 (.slice oa l.length oc) (Sc.fold l).length ((Sc.fold l).flatMap u8C) by rw [Sc.fold_length]] at HO
        have HC := conv_row (src := 119) (dst := 9) Tryz.underlying119 Tryz.underlying5 Tryz.underlying9 HO.out
        go_wp2_with fail
        go_ret2
        unfold FoldPost; rw [HS.out]; exact ⟨rfl, HR.out⟩

/-- what the letters of the folded word are -/
def RL10P (k : Int) (l : List UInt8) (w : World) (e : Ending) (w' : World) : Prop :=
  match Sc.lets k l with
  | none => e = .returned (.slice none 0 0) ∧ Below w.heap.size w w'
  | some ls => ∃ v, e = .returned v ∧ w'.ownsRow w.heap.size 9 1 v ls.length ((ls.map Sc.fold).flatMap strC) ∧ Below w.heap.size w w'

set_option maxRecDepth 100000 in
theorem rletters10_any (k : Int) (l : List UInt8) (w : World) (hl : l.length ≤ 1000000) : Calls Tryz.prog 98 #[.int .i64 k, .string (bs l)] w (RL10P k l w) := by
  have HF := hid (rfold_any k l w hl)
  go_enter Tryz.func98, Tryz.ntmps98
  go_wp2_with fail
  refine (HF.out).mono ?_
  rintro e w1 h1
  unfold FoldPost at h1
  cases hs : Sc.lets k l with
  | none =>
    rw [hs] at h1
    obtain ⟨rfl, hb⟩ := h1
    have HB := hid hb
    have HS := hid hs
    clear hb hs
    go_wp2_with fail
    go_ret
    unfold RL10P; rw [HS.out]; exact ⟨rfl, HB.out⟩
  | some ls =>
    rw [hs] at h1
    obtain ⟨rfl, hb⟩ := h1
    have HB := hid hb
    have HL := hid (rletters_any k (Sc.fold l) w1 (by rw [Sc.fold_length]; omega))
    have HS2 := hid (Sc.lets_fold hs)
    have HS := hid hs
    clear hb hs
    go_wp2_with fail
    refine (HL.out).mono ?_
    rintro e w2 h2
    unfold RLeP at h2
    rw [HS2.out] at h2
    obtain ⟨v, rfl, ho, hb⟩ := h2
    have HO := hid ho
    have HBT := hid (Below.step HB.out hb)
    have hz := HB.out.size
    clear ho hb
    go_wp2_with fail
    go_ret
    unfold RL10P; rw [HS.out]
    refine ⟨_, rfl, ?_, HBT.out⟩
    have := ownsRow_base HO.out hz
    rwa [List.length_map] at this

set_option maxRecDepth 100000 in
theorem rfolded_any (k : Int) (l : List UInt8) (most : Int) (w : World) (hl : l.length ≤ 1000000) : Calls Tryz.prog 68 #[.int .i64 k, .string (bs l), .int .i64 most] w (Gives (.bool (Rw.folded k l most)) w) := by
  have HF := hid (rfold_any k l w hl)
  go_enter Tryz.func68, Tryz.ntmps68
  go_wp2_with fail
  refine (HF.out).mono ?_
  rintro e w1 h1
  unfold FoldPost at h1
  cases hs : Sc.lets k l with
  | none =>
    rw [hs] at h1
    obtain ⟨rfl, hb⟩ := h1
    have HB := hid hb
    have HE := hid (show Rw.folded k l most = false by unfold Rw.folded; rw [hs])
    clear hb hs
    go_wp2_with fail
    go_ret
    exact ⟨ret_bool HE.out.symm, HB.out⟩
  | some ls =>
    rw [hs] at h1
    obtain ⟨rfl, hb⟩ := h1
    have HB := hid hb
    by_cases hf : Sc.fold l = l
    · have HE := hid (show Rw.folded k l most = decide ((ls.length : Int) ≤ most) by unfold Rw.folded; rw [hs]; simp [hf])
      have HL := hid (rletters10_any k l w1 hl)
      have HS := hid hs
      rw [hf]
      clear hb hs hf
      go_wp2_with fail
      refine (HL.out).mono ?_
      rintro e w2 h2
      unfold RL10P at h2
      rw [HS.out] at h2
      obtain ⟨v, rfl, ho, hb⟩ := h2
      obtain ⟨oa, oc, rfl⟩ := ownsRow_slice ho
      have HBT := hid (Below.step HB.out hb)
      clear ho hb
      go_wp2_with fail
      go_ret
      exact ⟨ret_bool HE.out.symm, HBT.out⟩
    · have HE := hid (show Rw.folded k l most = false by unfold Rw.folded; rw [hs]; simp [hf])
      have hne : ((bs (Sc.fold l)).toList == (bs l).toList) = false := str_ne hf
      clear hb hs hf
      go_wp2_with fail
      go_ret
      exact ⟨ret_bool HE.out.symm, HB.out⟩

set_option maxRecDepth 100000 in
theorem rsmall_any (l : List UInt8) (w : World) (hl : l.length ≤ 4611686018427387904) : Calls Tryz.prog 69 #[.string (bs l)] w (Gives (.bool (Rw.isForm l)) w) := by
  have hbl := bs_len l
  go_enter Tryz.func69, Tryz.ntmps69
  go_wp2_with fail
  go_loopw [3] (fun iv wr => ∃ (i : Nat), i ≤ l.length ∧ iv = .int .i64 i ∧ Hid ((l.take i).all Sc.small.contains = true) ∧ Hid (Below w.heap.size w wr)) (fun iv _ => l.length - (RowKit.intOf iv).toNat)
  case atStart => exact ⟨0, Nat.zero_le _, rfl, rfl, Below.refl _ _⟩
  case round =>
    obtain ⟨i, hi_, rfl, HA, HR⟩ := hrel
    by_cases hlt : i < l.length
    · obtain ⟨c, hc⟩ : ∃ c, l[i]? = some c := ⟨_, List.getElem?_eq_getElem hlt⟩
      have hgi : i < (bs l).size := by omega
      have hgc : (bs l)[i] = c := Option.some.inj ((by rw [List.getElem?_eq_getElem hlt]; rfl : l[i]? = some (bs l)[i]).symm.trans hc)
      have hi0 : (0 : Int) ≤ (i : Int) := by omega
      have hi1 : (i : Int) < (l.length : Int) := by omega
      have HC := hid hc
      clear hc
      by_cases h97 : c.toNat < 97
      · have g1 : decide (c.toNat < 97) = true := decide_eq_true h97
        have HE := hid (show Rw.isForm l = false by exact form_no HC.out (fun h => by have := (Sc.small_iff c).1 h; omega))
        go_wp2_with fail
        go_ret
        exact ⟨ret_bool HE.out.symm, HR.out⟩
      · have g1 : decide (c.toNat < 97) = false := decide_eq_false h97
        by_cases h122 : 122 < c.toNat
        · have g2 : decide (122 < c.toNat) = true := decide_eq_true h122
          have HE := hid (show Rw.isForm l = false by exact form_no HC.out (fun h => by have := (Sc.small_iff c).1 h; omega))
          go_wp2_with fail
          go_ret
          exact ⟨ret_bool HE.out.symm, HR.out⟩
        · have g2 : decide (122 < c.toNat) = false := decide_eq_false h122
          have HA2 := hid (form_step HC.out HA.out ((Sc.small_iff c).2 (by omega)))
          go_wp2_with fail
          go_roundw
          case rel => exact ⟨i + 1, by omega, by go_num, HA2, HR⟩
          case measure => simp [RowKit.intOf]; omega
    · have HE := hid (show Rw.isForm l = decide ((l.length : Int) ≤ 3) by
        unfold Rw.isForm
        have := HA.out
        rw [List.take_of_length_le (by omega)] at this
        rw [this, Bool.and_true]
        exact decide_eq_decide.2 (by omega))
      go_wp2_with fail
      go_ret
      exact ⟨ret_bool HE.out.symm, HR.out⟩

set_option maxRecDepth 100000 in
theorem rtwice_any (a b : Rw.Rule) (w : World) : Calls Tryz.prog 70 #[.agg #[.int .i64 a.script, .string (bs a.from_), .string (bs a.to_), .int .i64 a.cost], .agg #[.int .i64 b.script, .string (bs b.from_), .string (bs b.to_), .int .i64 b.cost]] w (Gives (.bool (decide (a.key = b.key))) w) := by
  have hk : a.key = b.key ↔ a.script = b.script ∧ a.from_ = b.from_ ∧ a.to_ = b.to_ := by unfold Rw.Rule.key; simp
  by_cases h1 : a.script = b.script
  · have g1 : (a.script == b.script) = true := beq_iff_eq.2 h1
    by_cases h2 : a.from_ = b.from_
    · have g2 : ((bs a.from_).toList == (bs b.from_).toList) = true := by rw [h2]; exact beq_self_eq_true _
      by_cases h3 : a.to_ = b.to_
      · have g3 : ((bs a.to_).toList == (bs b.to_).toList) = true := by rw [h3]; exact beq_self_eq_true _
        have HE := hid (decide_eq_true (hk.2 ⟨h1, h2, h3⟩))
        clear hk h1 h2 h3
        go_enter Tryz.func70, Tryz.ntmps70
        go_wp2_with fail
        go_ret
        exact ⟨ret_bool HE.out.symm, ((Below.refl _ w).alloc (Nat.le_refl _) _).alloc (by simp) _⟩
      · have g3 : ((bs a.to_).toList == (bs b.to_).toList) = false := str_ne h3
        have HE := hid (decide_eq_false (fun h => h3 (hk.1 h).2.2))
        clear hk h1 h2 h3
        go_enter Tryz.func70, Tryz.ntmps70
        go_wp2_with fail
        go_ret
        exact ⟨ret_bool HE.out.symm, ((Below.refl _ w).alloc (Nat.le_refl _) _).alloc (by simp) _⟩
    · have g2 : ((bs a.from_).toList == (bs b.from_).toList) = false := str_ne h2
      have HE := hid (decide_eq_false (fun h => h2 (hk.1 h).2.1))
      clear hk h1 h2
      go_enter Tryz.func70, Tryz.ntmps70
      go_wp2_with fail
      go_ret
      exact ⟨ret_bool HE.out.symm, ((Below.refl _ w).alloc (Nat.le_refl _) _).alloc (by simp) _⟩
  · have g1 : (a.script == b.script) = false := beq_eq_false_iff_ne.2 h1
    have HE := hid (decide_eq_false (fun h => h1 (hk.1 h).1))
    clear hk h1
    go_enter Tryz.func70, Tryz.ntmps70
    go_wp2_with fail
    go_ret
    exact ⟨ret_bool HE.out.symm, ((Below.refl _ w).alloc (Nat.le_refl _) _).alloc (by simp) _⟩

end Go.Proofs.YthibphklchalkaaGreatDoor

namespace Rw
section
variable {α : Type} {ok : α → Bool} {key : α → Int × List UInt8 × List UInt8} {l : List α} {i : Nat} {x : α}
theorem allOk_upto (hx : l[i]? = some x) : allOk ok key (l.take (i + 1)) [] = (allOk ok key (l.take i) [] && (!((l.take i).map key).contains (key x) && ok x)) := by
  rw [List.take_add_one, hx, allOk_append]
  simp [allOk]
theorem allOk_part (h : allOk ok key (l.take i) [] = false) : allOk ok key l [] = false := by
  rw [← List.take_append_drop i l, allOk_append, h, Bool.false_and]
theorem allOk_bad (hx : l[i]? = some x) (h : ok x = false) : allOk ok key l [] = false := allOk_part (i := i + 1) (by rw [allOk_upto hx, h]; simp)
theorem allOk_twice (hx : l[i]? = some x) {k : Nat} {y : α} (hy : l[k]? = some y) (hk : k < i) (h : key x = key y) : allOk ok key l [] = false := by
  refine allOk_part (i := i + 1) ?_
  rw [allOk_upto hx]
  have : ((l.take i).map key).contains (key x) = true := by
    rw [List.contains_iff_mem, List.mem_map]
    exact ⟨y, List.mem_of_getElem? (by rw [List.getElem?_take_of_lt hk]; exact hy), h.symm⟩
  rw [this]; simp
theorem allOk_next (hx : l[i]? = some x) (h : allOk ok key (l.take i) [] = true) (ho : ok x = true) (hn : ((l.take i).map key).contains (key x) = false) : allOk ok key (l.take (i + 1)) [] = true := by
  rw [allOk_upto hx, h, ho, hn]; rfl
theorem keys_next {k : Nat} {y : α} (hy : l[k]? = some y) (h : ((l.take k).map key).contains (key x) = false) (hk : ¬ key x = key y) : ((l.take (k + 1)).map key).contains (key x) = false := by
  rw [List.take_add_one, hy, List.map_append, List.contains_eq_any_beq, List.any_append, ← List.contains_eq_any_beq, h]
  simpa using hk
end
end Rw
namespace Go.Proofs.YthibphklchalkaaGreatDoor
open Go.RowKit Go.Lib Go.Maps

theorem str_same {a b : List UInt8} (h : ((bs a).toList == (bs b).toList) = true) : a = b := by
  have := beq_iff_eq.1 h
  simpa [ByteArray.toList_eq, bs] using this
/-- an element's cells, in a later world -/
theorem row_cell {α : Type} {W : World} {g o sz : Nat} {cells : α → List Value} {l : List α} (h : RowOf W g o sz cells l) {k : Nat} {x : α} (hx : l[k]? = some x) (j : Nat) {u : Value} (hu : (cells x)[j]? = some u) : W.cell? ⟨g, o + k * sz + j, none⟩ = some u := h.2 k x hx j u hu

set_option maxRecDepth 100000 in
set_option maxHeartbeats 8000000 in
theorem rrules_any (l : List Rw.Rule) (v : Value) (w : World) (hv : SlOf w v 4 ruleCells l) (hl : l.length ≤ 1000000) (hf : ∀ d ∈ l, RuleFits d) : Calls Tryz.prog 57 #[v] w (Gives (.bool (Rw.allOk Rw.ruleOk Rw.Rule.key l [])) w) := by
  have HV := hid hv
  have HF := hid hf
  obtain ⟨a, cap, rfl, -⟩ := hv
  clear hf
  go_enter Tryz.func57, Tryz.ntmps57
  go_wp2_with fail
  go_loopw [3] (fun iv wr => ∃ i : Nat, i ≤ l.length ∧ iv = .int .i64 i ∧ Hid (Rw.allOk Rw.ruleOk Rw.Rule.key (l.take i) [] = true) ∧ Hid (Below w.heap.size w wr)) (fun iv _ => l.length - (RowKit.intOf iv).toNat)
  case atStart => exact ⟨0, Nat.zero_le _, rfl, rfl, Below.refl _ _⟩
  case round =>
    obtain ⟨i, hi_, rfl, HK, HR⟩ := hrel
    by_cases hlt : i < l.length
    · obtain ⟨x, hx⟩ : ∃ x, l[i]? = some x := ⟨_, List.getElem?_eq_getElem hlt⟩
      obtain ⟨g, o, rfl, hr⟩ : ∃ g o, a = some ⟨g, o, none⟩ ∧ RowOf wr g o 4 ruleCells l := by
        obtain ⟨a', cap', ev, -, -, hr⟩ := HV.out.below HR.out
        cases ev
        exact hr (by omega)
      have hzg := hr.1
      have e0 := row_cell hr hx 0 rfl
      have e1 := row_cell hr hx 1 rfl
      have e2 := row_cell hr hx 2 rfl
      have e3 := row_cell hr hx 3 rfl
      have HRW := hid hr
      obtain ⟨-, f1, f2⟩ := HF.out x (List.mem_of_getElem? hx)
      have hi0 : (0 : Int) ≤ (i : Int) := by omega
      have hi1 : (i : Int) < (l.length : Int) := by omega
      have HX := hid hx
      have HC1 : Hid (∀ W, Calls Tryz.prog 68 #[.int .i64 x.script, .string (bs x.from_), .int .i64 3] W (Gives (.bool (Rw.folded x.script x.from_ 3)) W)) := fun W => rfolded_any x.script x.from_ 3 W (by omega)
      have HC2 : Hid (∀ W, Calls Tryz.prog 69 #[.string (bs x.to_)] W (Gives (.bool (Rw.isForm x.to_)) W)) := fun W => rsmall_any x.to_ W (by omega)
      have HC3 : Hid (∀ W, Calls Tryz.prog 56 #[.int .i64 x.cost] W (Gives (.bool (Rw.isCost x.cost)) W)) := fun W => rcost_any x.cost W
      have HOK := hid (show Rw.ruleOk x = (Rw.folded x.script x.from_ 3 && Rw.isForm x.to_ && Rw.isCost x.cost) from rfl)
      obtain ⟨c1, hc1⟩ : ∃ b, b = Rw.folded x.script x.from_ 3 := ⟨_, rfl⟩
      obtain ⟨c2, hc2⟩ : ∃ b, b = Rw.isForm x.to_ := ⟨_, rfl⟩
      obtain ⟨c3, hc3⟩ : ∃ b, b = Rw.isCost x.cost := ⟨_, rfl⟩
      rw [← hc1] at HC1 HOK
      rw [← hc2] at HC2 HOK
      rw [← hc3] at HC3 HOK
      clear hc1 hc2 hc3 hr hx
      go_upto_region 4 with (fail)
      refine wp_heldS (S := StillAt wr) (by kernel_rfl) ?_
      simp only [List.size_toArray, List.length_cons, List.length_nil, Nat.reduceAdd]
      intro hc
      have S0 : StillAt wr (Array.replicate 30 false) wr.drew := (Below.refl _ _).drew
      refine wpAnyS_take (i := 0) (v := .slice (some ⟨g, o, none⟩) l.length cap) rfl (by kernel_rfl) (by kernel_rfl) (by kernel_rfl) (fun _ _ _ h => h) (fun _ _ => Iff.rfl) hc (by first | rfl | simp [Region.wanted]) (fun wx hx => ?_) S0 (fun hc S0 => ?_)
      · go_simp
      try simp only [List.getElem_toArray, List.getElem_cons_zero, Act.put, List.setIfInBounds_toArray, List.set_cons_zero, List.set_cons_succ]
      refine wpAnyS_take (i := 1) (v := .int .i64 i) rfl (by kernel_rfl) (by kernel_rfl) (by kernel_rfl) (fun _ _ _ h => h) (fun _ _ => Iff.rfl) hc (by first | rfl | simp [Region.wanted]) (fun wx hx => ?_) S0 (fun hc S0 => ?_)
      · go_simp
      try simp only [List.getElem_toArray, List.getElem_cons_succ, List.getElem_cons_zero, Act.put, List.setIfInBounds_toArray, List.set_cons_zero, List.set_cons_succ]
      refine wpAnyS_take (i := 2) (v := .pointer (some ⟨g, o + i * 4, none⟩)) rfl (by kernel_rfl) (by kernel_rfl) (by kernel_rfl) (fun _ _ _ h => h) (fun _ _ => Iff.rfl) hc (by first | rfl | simp [Region.wanted]) (fun wx hx => ?_) S0 (fun hc S0 => ?_)
      · go_simp
      try simp only [List.getElem_toArray, List.getElem_cons_succ, List.getElem_cons_zero, Act.put, List.setIfInBounds_toArray, List.set_cons_zero, List.set_cons_succ]
      refine wpAnyS_take (i := 3) (v := .pointer (some ⟨g, o + i * 4, none⟩)) rfl (by kernel_rfl) (by kernel_rfl) (by kernel_rfl) (fun _ _ _ h => h) (fun _ _ => Iff.rfl) hc (by first | rfl | simp [Region.wanted]) (fun wx hx => ?_) S0 (fun hc S0 => ?_)
      · go_simp
      try simp only [List.getElem_toArray, List.getElem_cons_succ, List.getElem_cons_zero, Act.put, List.setIfInBounds_toArray, List.set_cons_zero, List.set_cons_succ]
      refine wpAnyS_take (i := 4) (v := .int .i64 x.script) rfl (by kernel_rfl) (by kernel_rfl) (by kernel_rfl) (fun _ _ _ h => h) (fun _ _ => Iff.rfl) hc (by first | rfl | simp [Region.wanted]) (fun wx hx => ?_) S0 (fun hc S0 => ?_)
      · have g := (hx.still.cell (p := ⟨g, o + i * 4, none⟩) hzg).trans e0
        go_simp
      try simp only [List.getElem_toArray, List.getElem_cons_succ, List.getElem_cons_zero, Act.put, List.setIfInBounds_toArray, List.set_cons_zero, List.set_cons_succ]
      refine wpAnyS_take (i := 5) (v := .slice (some ⟨g, o, none⟩) l.length cap) rfl (by kernel_rfl) (by kernel_rfl) (by kernel_rfl) (fun _ _ _ h => h) (fun _ _ => Iff.rfl) hc (by first | rfl | simp [Region.wanted]) (fun wx hx => ?_) S0 (fun hc S0 => ?_)
      · go_simp
      try simp only [List.getElem_toArray, List.getElem_cons_succ, List.getElem_cons_zero, Act.put, List.setIfInBounds_toArray, List.set_cons_zero, List.set_cons_succ]
      refine wpAnyS_take (i := 6) (v := .int .i64 i) rfl (by kernel_rfl) (by kernel_rfl) (by kernel_rfl) (fun _ _ _ h => h) (fun _ _ => Iff.rfl) hc (by first | rfl | simp [Region.wanted]) (fun wx hx => ?_) S0 (fun hc S0 => ?_)
      · go_simp
      try simp only [List.getElem_toArray, List.getElem_cons_succ, List.getElem_cons_zero, Act.put, List.setIfInBounds_toArray, List.set_cons_zero, List.set_cons_succ]
      refine wpAnyS_take (i := 7) (v := .pointer (some ⟨g, o + i * 4, none⟩)) rfl (by kernel_rfl) (by kernel_rfl) (by kernel_rfl) (fun _ _ _ h => h) (fun _ _ => Iff.rfl) hc (by first | rfl | simp [Region.wanted]) (fun wx hx => ?_) S0 (fun hc S0 => ?_)
      · go_simp
      try simp only [List.getElem_toArray, List.getElem_cons_succ, List.getElem_cons_zero, Act.put, List.setIfInBounds_toArray, List.set_cons_zero, List.set_cons_succ]
      refine wpAnyS_take (i := 8) (v := .pointer (some ⟨g, o + i * 4 + 1, none⟩)) rfl (by kernel_rfl) (by kernel_rfl) (by kernel_rfl) (fun _ _ _ h => h) (fun _ _ => Iff.rfl) hc (by first | rfl | simp [Region.wanted]) (fun wx hx => ?_) S0 (fun hc S0 => ?_)
      · go_simp
      try simp only [List.getElem_toArray, List.getElem_cons_succ, List.getElem_cons_zero, Act.put, List.setIfInBounds_toArray, List.set_cons_zero, List.set_cons_succ]
      refine wpAnyS_take (i := 9) (v := .string (bs x.from_)) rfl (by kernel_rfl) (by kernel_rfl) (by kernel_rfl) (fun _ _ _ h => h) (fun _ _ => Iff.rfl) hc (by first | rfl | simp [Region.wanted]) (fun wx hx => ?_) S0 (fun hc S0 => ?_)
      · have g := (hx.still.cell (p := ⟨g, o + i * 4 + 1, none⟩) hzg).trans e1
        go_simp
      try simp only [List.getElem_toArray, List.getElem_cons_succ, List.getElem_cons_zero, Act.put, List.setIfInBounds_toArray, List.set_cons_zero, List.set_cons_succ]
      refine wpAnyS_one (i := 10) rfl (by kernel_rfl) (by rfl) hc (fun K' hK => ?_)
      go_simp
      refine (HC1.out _).mono ?_
      rintro e w1 ⟨rfl, hb1⟩
      have hB1 := Below.step (Below.refl _ wr).drew hb1
      clear hb1
      refine hK.out _ _ hB1 (fun hc => ?_)
      clear hK K'
      have S0 : StillAt wr #[] w1 := hB1
      try simp only [List.getElem_toArray, List.getElem_cons_succ, List.getElem_cons_zero, Act.put, List.setIfInBounds_toArray, List.set_cons_zero, List.set_cons_succ]
      cases c1 with
      | false =>
        refine wpAnyS_take (i := 11) (v := .bool true) rfl (by kernel_rfl) (by kernel_rfl) (by kernel_rfl) (fun _ _ _ h => h) (fun _ _ => Iff.rfl) hc (by first | rfl | simp [Region.wanted]) (fun wx hx => ?_) S0 (fun hc S0 => ?_)
        · go_simp
        try simp only [List.getElem_toArray, List.getElem_cons_succ, List.getElem_cons_zero, Act.put, List.setIfInBounds_toArray, List.set_cons_zero, List.set_cons_succ]
        refine wpAnyS_take (i := 12) (v := .bool true) rfl (by kernel_rfl) (by kernel_rfl) (by kernel_rfl) (fun _ _ _ h => h) (fun _ _ => Iff.rfl) hc (by first | rfl | simp [Region.wanted]) (fun wx hx => ?_) S0 (fun hc S0 => ?_)
        · go_simp
        try simp only [List.getElem_toArray, List.getElem_cons_succ, List.getElem_cons_zero, Act.put, List.setIfInBounds_toArray, List.set_cons_zero, List.set_cons_succ]
        refine wpAnyS_skip (i := 13) rfl (by kernel_rfl) (by kernel_rfl) (by kernel_rfl) (fun _ _ _ h => h) (fun _ _ => Iff.rfl) hc (by rfl) S0 (fun hc S0 => ?_)
        try simp only [List.getElem_toArray, List.getElem_cons_succ, List.getElem_cons_zero, Act.put, List.setIfInBounds_toArray, List.set_cons_zero, List.set_cons_succ]
        refine wpAnyS_skip (i := 14) rfl (by kernel_rfl) (by kernel_rfl) (by kernel_rfl) (fun _ _ _ h => h) (fun _ _ => Iff.rfl) hc (by rfl) S0 (fun hc S0 => ?_)
        try simp only [List.getElem_toArray, List.getElem_cons_succ, List.getElem_cons_zero, Act.put, List.setIfInBounds_toArray, List.set_cons_zero, List.set_cons_succ]
        refine wpAnyS_skip (i := 15) rfl (by kernel_rfl) (by kernel_rfl) (by kernel_rfl) (fun _ _ _ h => h) (fun _ _ => Iff.rfl) hc (by rfl) S0 (fun hc S0 => ?_)
        try simp only [List.getElem_toArray, List.getElem_cons_succ, List.getElem_cons_zero, Act.put, List.setIfInBounds_toArray, List.set_cons_zero, List.set_cons_succ]
        refine wpAnyS_skip (i := 16) rfl (by kernel_rfl) (by kernel_rfl) (by kernel_rfl) (fun _ _ _ h => h) (fun _ _ => Iff.rfl) hc (by rfl) S0 (fun hc S0 => ?_)
        try simp only [List.getElem_toArray, List.getElem_cons_succ, List.getElem_cons_zero, Act.put, List.setIfInBounds_toArray, List.set_cons_zero, List.set_cons_succ]
        refine wpAnyS_skip (i := 17) rfl (by kernel_rfl) (by kernel_rfl) (by kernel_rfl) (fun _ _ _ h => h) (fun _ _ => Iff.rfl) hc (by rfl) S0 (fun hc S0 => ?_)
        try simp only [List.getElem_toArray, List.getElem_cons_succ, List.getElem_cons_zero, Act.put, List.setIfInBounds_toArray, List.set_cons_zero, List.set_cons_succ]
        refine wpAnyS_skip (i := 18) rfl (by kernel_rfl) (by kernel_rfl) (by kernel_rfl) (fun _ _ _ h => h) (fun _ _ => Iff.rfl) hc (by rfl) S0 (fun hc S0 => ?_)
        try simp only [List.getElem_toArray, List.getElem_cons_succ, List.getElem_cons_zero, Act.put, List.setIfInBounds_toArray, List.set_cons_zero, List.set_cons_succ]
        refine wpAnyS_skip (i := 19) rfl (by kernel_rfl) (by kernel_rfl) (by kernel_rfl) (fun _ _ _ h => h) (fun _ _ => Iff.rfl) hc (by rfl) S0 (fun hc S0 => ?_)
        try simp only [List.getElem_toArray, List.getElem_cons_succ, List.getElem_cons_zero, Act.put, List.setIfInBounds_toArray, List.set_cons_zero, List.set_cons_succ]
        refine wpAnyS_take (i := 20) (v := .bool true) rfl (by kernel_rfl) (by kernel_rfl) (by kernel_rfl) (fun _ _ _ h => h) (fun _ _ => Iff.rfl) hc (by first | rfl | simp [Region.wanted]) (fun wx hx => ?_) S0 (fun hc S0 => ?_)
        · go_simp
        try simp only [List.getElem_toArray, List.getElem_cons_succ, List.getElem_cons_zero, Act.put, List.setIfInBounds_toArray, List.set_cons_zero, List.set_cons_succ]
        refine wpAnyS_take (i := 21) (v := .bool true) rfl (by kernel_rfl) (by kernel_rfl) (by kernel_rfl) (fun _ _ _ h => h) (fun _ _ => Iff.rfl) hc (by first | rfl | simp [Region.wanted]) (fun wx hx => ?_) S0 (fun hc S0 => ?_)
        · go_simp
        try simp only [List.getElem_toArray, List.getElem_cons_succ, List.getElem_cons_zero, Act.put, List.setIfInBounds_toArray, List.set_cons_zero, List.set_cons_succ]
        refine wpAnyS_skip (i := 22) rfl (by kernel_rfl) (by kernel_rfl) (by kernel_rfl) (fun _ _ _ h => h) (fun _ _ => Iff.rfl) hc (by rfl) S0 (fun hc S0 => ?_)
        try simp only [List.getElem_toArray, List.getElem_cons_succ, List.getElem_cons_zero, Act.put, List.setIfInBounds_toArray, List.set_cons_zero, List.set_cons_succ]
        refine wpAnyS_skip (i := 23) rfl (by kernel_rfl) (by kernel_rfl) (by kernel_rfl) (fun _ _ _ h => h) (fun _ _ => Iff.rfl) hc (by rfl) S0 (fun hc S0 => ?_)
        try simp only [List.getElem_toArray, List.getElem_cons_succ, List.getElem_cons_zero, Act.put, List.setIfInBounds_toArray, List.set_cons_zero, List.set_cons_succ]
        refine wpAnyS_skip (i := 24) rfl (by kernel_rfl) (by kernel_rfl) (by kernel_rfl) (fun _ _ _ h => h) (fun _ _ => Iff.rfl) hc (by rfl) S0 (fun hc S0 => ?_)
        try simp only [List.getElem_toArray, List.getElem_cons_succ, List.getElem_cons_zero, Act.put, List.setIfInBounds_toArray, List.set_cons_zero, List.set_cons_succ]
        refine wpAnyS_skip (i := 25) rfl (by kernel_rfl) (by kernel_rfl) (by kernel_rfl) (fun _ _ _ h => h) (fun _ _ => Iff.rfl) hc (by rfl) S0 (fun hc S0 => ?_)
        try simp only [List.getElem_toArray, List.getElem_cons_succ, List.getElem_cons_zero, Act.put, List.setIfInBounds_toArray, List.set_cons_zero, List.set_cons_succ]
        refine wpAnyS_skip (i := 26) rfl (by kernel_rfl) (by kernel_rfl) (by kernel_rfl) (fun _ _ _ h => h) (fun _ _ => Iff.rfl) hc (by rfl) S0 (fun hc S0 => ?_)
        try simp only [List.getElem_toArray, List.getElem_cons_succ, List.getElem_cons_zero, Act.put, List.setIfInBounds_toArray, List.set_cons_zero, List.set_cons_succ]
        refine wpAnyS_skip (i := 27) rfl (by kernel_rfl) (by kernel_rfl) (by kernel_rfl) (fun _ _ _ h => h) (fun _ _ => Iff.rfl) hc (by rfl) S0 (fun hc S0 => ?_)
        try simp only [List.getElem_toArray, List.getElem_cons_succ, List.getElem_cons_zero, Act.put, List.setIfInBounds_toArray, List.set_cons_zero, List.set_cons_succ]
        refine wpAnyS_skip (i := 28) rfl (by kernel_rfl) (by kernel_rfl) (by kernel_rfl) (fun _ _ _ h => h) (fun _ _ => Iff.rfl) hc (by rfl) S0 (fun hc S0 => ?_)
        try simp only [List.getElem_toArray, List.getElem_cons_succ, List.getElem_cons_zero, Act.put, List.setIfInBounds_toArray, List.set_cons_zero, List.set_cons_succ]
        refine wpAnyS_one (i := 29) rfl (by kernel_rfl) (by rfl) hc (fun K' hK => ?_)
        go_simp
        refine hK.out _ _ hB1 (fun hc => ?_)
        clear hK K'
        have S0 : StillAt wr #[] w1 := hB1
        try simp only [List.getElem_toArray, List.getElem_cons_succ, List.getElem_cons_zero, Act.put, List.setIfInBounds_toArray, List.set_cons_zero, List.set_cons_succ]
        refine wpAnyS_done (by kernel_rfl) ?_ _
        clear hc S0
        have HBX := hid (Below.step HR.out hB1)
        have HE := hid (show Rw.allOk Rw.ruleOk Rw.Rule.key l [] = false from Rw.allOk_bad HX.out (by rw [HOK.out]; rfl))
        go_wp2_with fail
        go_ret
        exact ⟨ret_bool HE.out.symm, HBX.out⟩
      | true =>
        refine wpAnyS_take (i := 11) (v := .bool false) rfl (by kernel_rfl) (by kernel_rfl) (by kernel_rfl) (fun _ _ _ h => h) (fun _ _ => Iff.rfl) hc (by first | rfl | simp [Region.wanted]) (fun wx hx => ?_) S0 (fun hc S0 => ?_)
        · go_simp
        try simp only [List.getElem_toArray, List.getElem_cons_succ, List.getElem_cons_zero, Act.put, List.setIfInBounds_toArray, List.set_cons_zero, List.set_cons_succ]
        refine wpAnyS_take (i := 12) (v := .bool false) rfl (by kernel_rfl) (by kernel_rfl) (by kernel_rfl) (fun _ _ _ h => h) (fun _ _ => Iff.rfl) hc (by first | rfl | simp [Region.wanted]) (fun wx hx => ?_) S0 (fun hc S0 => ?_)
        · go_simp
        try simp only [List.getElem_toArray, List.getElem_cons_succ, List.getElem_cons_zero, Act.put, List.setIfInBounds_toArray, List.set_cons_zero, List.set_cons_succ]
        refine wpAnyS_take (i := 13) (v := .slice (some ⟨g, o, none⟩) l.length cap) rfl (by kernel_rfl) (by kernel_rfl) (by kernel_rfl) (fun _ _ _ h => h) (fun _ _ => Iff.rfl) hc (by first | rfl | simp [Region.wanted]) (fun wx hx => ?_) S0 (fun hc S0 => ?_)
        · go_simp
        try simp only [List.getElem_toArray, List.getElem_cons_succ, List.getElem_cons_zero, Act.put, List.setIfInBounds_toArray, List.set_cons_zero, List.set_cons_succ]
        refine wpAnyS_take (i := 14) (v := .int .i64 i) rfl (by kernel_rfl) (by kernel_rfl) (by kernel_rfl) (fun _ _ _ h => h) (fun _ _ => Iff.rfl) hc (by first | rfl | simp [Region.wanted]) (fun wx hx => ?_) S0 (fun hc S0 => ?_)
        · go_simp
        try simp only [List.getElem_toArray, List.getElem_cons_succ, List.getElem_cons_zero, Act.put, List.setIfInBounds_toArray, List.set_cons_zero, List.set_cons_succ]
        refine wpAnyS_take (i := 15) (v := .pointer (some ⟨g, o + i * 4, none⟩)) rfl (by kernel_rfl) (by kernel_rfl) (by kernel_rfl) (fun _ _ _ h => h) (fun _ _ => Iff.rfl) hc (by first | rfl | simp [Region.wanted]) (fun wx hx => ?_) S0 (fun hc S0 => ?_)
        · go_simp
        try simp only [List.getElem_toArray, List.getElem_cons_succ, List.getElem_cons_zero, Act.put, List.setIfInBounds_toArray, List.set_cons_zero, List.set_cons_succ]
        refine wpAnyS_take (i := 16) (v := .pointer (some ⟨g, o + i * 4 + 2, none⟩)) rfl (by kernel_rfl) (by kernel_rfl) (by kernel_rfl) (fun _ _ _ h => h) (fun _ _ => Iff.rfl) hc (by first | rfl | simp [Region.wanted]) (fun wx hx => ?_) S0 (fun hc S0 => ?_)
        · go_simp
        try simp only [List.getElem_toArray, List.getElem_cons_succ, List.getElem_cons_zero, Act.put, List.setIfInBounds_toArray, List.set_cons_zero, List.set_cons_succ]
        refine wpAnyS_take (i := 17) (v := .string (bs x.to_)) rfl (by kernel_rfl) (by kernel_rfl) (by kernel_rfl) (fun _ _ _ h => h) (fun _ _ => Iff.rfl) hc (by first | rfl | simp [Region.wanted]) (fun wx hx => ?_) S0 (fun hc S0 => ?_)
        · have g := (hx.still.cell (p := ⟨g, o + i * 4 + 2, none⟩) hzg).trans e2
          go_simp
        try simp only [List.getElem_toArray, List.getElem_cons_succ, List.getElem_cons_zero, Act.put, List.setIfInBounds_toArray, List.set_cons_zero, List.set_cons_succ]
        refine wpAnyS_one (i := 18) rfl (by kernel_rfl) (by rfl) hc (fun K' hK => ?_)
        go_simp
        refine (HC2.out _).mono ?_
        rintro e w2 ⟨rfl, hb2⟩
        have hB2 := Below.step hB1 hb2
        clear hb2
        refine hK.out _ _ hB2 (fun hc => ?_)
        clear hK K'
        have S0 : StillAt wr #[] w2 := hB2
        try simp only [List.getElem_toArray, List.getElem_cons_succ, List.getElem_cons_zero, Act.put, List.setIfInBounds_toArray, List.set_cons_zero, List.set_cons_succ]
        cases c2 with
        | false =>
          refine wpAnyS_take (i := 19) (v := .bool true) rfl (by kernel_rfl) (by kernel_rfl) (by kernel_rfl) (fun _ _ _ h => h) (fun _ _ => Iff.rfl) hc (by first | rfl | simp [Region.wanted]) (fun wx hx => ?_) S0 (fun hc S0 => ?_)
          · go_simp
          try simp only [List.getElem_toArray, List.getElem_cons_succ, List.getElem_cons_zero, Act.put, List.setIfInBounds_toArray, List.set_cons_zero, List.set_cons_succ]
          refine wpAnyS_take (i := 20) (v := .bool true) rfl (by kernel_rfl) (by kernel_rfl) (by kernel_rfl) (fun _ _ _ h => h) (fun _ _ => Iff.rfl) hc (by first | rfl | simp [Region.wanted]) (fun wx hx => ?_) S0 (fun hc S0 => ?_)
          · go_simp
          try simp only [List.getElem_toArray, List.getElem_cons_succ, List.getElem_cons_zero, Act.put, List.setIfInBounds_toArray, List.set_cons_zero, List.set_cons_succ]
          refine wpAnyS_take (i := 21) (v := .bool true) rfl (by kernel_rfl) (by kernel_rfl) (by kernel_rfl) (fun _ _ _ h => h) (fun _ _ => Iff.rfl) hc (by first | rfl | simp [Region.wanted]) (fun wx hx => ?_) S0 (fun hc S0 => ?_)
          · go_simp
          try simp only [List.getElem_toArray, List.getElem_cons_succ, List.getElem_cons_zero, Act.put, List.setIfInBounds_toArray, List.set_cons_zero, List.set_cons_succ]
          refine wpAnyS_skip (i := 22) rfl (by kernel_rfl) (by kernel_rfl) (by kernel_rfl) (fun _ _ _ h => h) (fun _ _ => Iff.rfl) hc (by rfl) S0 (fun hc S0 => ?_)
          try simp only [List.getElem_toArray, List.getElem_cons_succ, List.getElem_cons_zero, Act.put, List.setIfInBounds_toArray, List.set_cons_zero, List.set_cons_succ]
          refine wpAnyS_skip (i := 23) rfl (by kernel_rfl) (by kernel_rfl) (by kernel_rfl) (fun _ _ _ h => h) (fun _ _ => Iff.rfl) hc (by rfl) S0 (fun hc S0 => ?_)
          try simp only [List.getElem_toArray, List.getElem_cons_succ, List.getElem_cons_zero, Act.put, List.setIfInBounds_toArray, List.set_cons_zero, List.set_cons_succ]
          refine wpAnyS_skip (i := 24) rfl (by kernel_rfl) (by kernel_rfl) (by kernel_rfl) (fun _ _ _ h => h) (fun _ _ => Iff.rfl) hc (by rfl) S0 (fun hc S0 => ?_)
          try simp only [List.getElem_toArray, List.getElem_cons_succ, List.getElem_cons_zero, Act.put, List.setIfInBounds_toArray, List.set_cons_zero, List.set_cons_succ]
          refine wpAnyS_skip (i := 25) rfl (by kernel_rfl) (by kernel_rfl) (by kernel_rfl) (fun _ _ _ h => h) (fun _ _ => Iff.rfl) hc (by rfl) S0 (fun hc S0 => ?_)
          try simp only [List.getElem_toArray, List.getElem_cons_succ, List.getElem_cons_zero, Act.put, List.setIfInBounds_toArray, List.set_cons_zero, List.set_cons_succ]
          refine wpAnyS_skip (i := 26) rfl (by kernel_rfl) (by kernel_rfl) (by kernel_rfl) (fun _ _ _ h => h) (fun _ _ => Iff.rfl) hc (by rfl) S0 (fun hc S0 => ?_)
          try simp only [List.getElem_toArray, List.getElem_cons_succ, List.getElem_cons_zero, Act.put, List.setIfInBounds_toArray, List.set_cons_zero, List.set_cons_succ]
          refine wpAnyS_skip (i := 27) rfl (by kernel_rfl) (by kernel_rfl) (by kernel_rfl) (fun _ _ _ h => h) (fun _ _ => Iff.rfl) hc (by rfl) S0 (fun hc S0 => ?_)
          try simp only [List.getElem_toArray, List.getElem_cons_succ, List.getElem_cons_zero, Act.put, List.setIfInBounds_toArray, List.set_cons_zero, List.set_cons_succ]
          refine wpAnyS_skip (i := 28) rfl (by kernel_rfl) (by kernel_rfl) (by kernel_rfl) (fun _ _ _ h => h) (fun _ _ => Iff.rfl) hc (by rfl) S0 (fun hc S0 => ?_)
          try simp only [List.getElem_toArray, List.getElem_cons_succ, List.getElem_cons_zero, Act.put, List.setIfInBounds_toArray, List.set_cons_zero, List.set_cons_succ]
          refine wpAnyS_one (i := 29) rfl (by kernel_rfl) (by rfl) hc (fun K' hK => ?_)
          go_simp
          refine hK.out _ _ hB2 (fun hc => ?_)
          clear hK K'
          have S0 : StillAt wr #[] w2 := hB2
          try simp only [List.getElem_toArray, List.getElem_cons_succ, List.getElem_cons_zero, Act.put, List.setIfInBounds_toArray, List.set_cons_zero, List.set_cons_succ]
          refine wpAnyS_done (by kernel_rfl) ?_ _
          clear hc S0
          have HBX := hid (Below.step HR.out hB2)
          have HE := hid (show Rw.allOk Rw.ruleOk Rw.Rule.key l [] = false from Rw.allOk_bad HX.out (by rw [HOK.out]; rfl))
          go_wp2_with fail
          go_ret
          exact ⟨ret_bool HE.out.symm, HBX.out⟩
        | true =>
          refine wpAnyS_take (i := 19) (v := .bool false) rfl (by kernel_rfl) (by kernel_rfl) (by kernel_rfl) (fun _ _ _ h => h) (fun _ _ => Iff.rfl) hc (by first | rfl | simp [Region.wanted]) (fun wx hx => ?_) S0 (fun hc S0 => ?_)
          · go_simp
          try simp only [List.getElem_toArray, List.getElem_cons_succ, List.getElem_cons_zero, Act.put, List.setIfInBounds_toArray, List.set_cons_zero, List.set_cons_succ]
          refine wpAnyS_take (i := 20) (v := .bool false) rfl (by kernel_rfl) (by kernel_rfl) (by kernel_rfl) (fun _ _ _ h => h) (fun _ _ => Iff.rfl) hc (by first | rfl | simp [Region.wanted]) (fun wx hx => ?_) S0 (fun hc S0 => ?_)
          · go_simp
          try simp only [List.getElem_toArray, List.getElem_cons_succ, List.getElem_cons_zero, Act.put, List.setIfInBounds_toArray, List.set_cons_zero, List.set_cons_succ]
          refine wpAnyS_take (i := 21) (v := .bool false) rfl (by kernel_rfl) (by kernel_rfl) (by kernel_rfl) (fun _ _ _ h => h) (fun _ _ => Iff.rfl) hc (by first | rfl | simp [Region.wanted]) (fun wx hx => ?_) S0 (fun hc S0 => ?_)
          · go_simp
          try simp only [List.getElem_toArray, List.getElem_cons_succ, List.getElem_cons_zero, Act.put, List.setIfInBounds_toArray, List.set_cons_zero, List.set_cons_succ]
          refine wpAnyS_take (i := 22) (v := .slice (some ⟨g, o, none⟩) l.length cap) rfl (by kernel_rfl) (by kernel_rfl) (by kernel_rfl) (fun _ _ _ h => h) (fun _ _ => Iff.rfl) hc (by first | rfl | simp [Region.wanted]) (fun wx hx => ?_) S0 (fun hc S0 => ?_)
          · go_simp
          try simp only [List.getElem_toArray, List.getElem_cons_succ, List.getElem_cons_zero, Act.put, List.setIfInBounds_toArray, List.set_cons_zero, List.set_cons_succ]
          refine wpAnyS_take (i := 23) (v := .int .i64 i) rfl (by kernel_rfl) (by kernel_rfl) (by kernel_rfl) (fun _ _ _ h => h) (fun _ _ => Iff.rfl) hc (by first | rfl | simp [Region.wanted]) (fun wx hx => ?_) S0 (fun hc S0 => ?_)
          · go_simp
          try simp only [List.getElem_toArray, List.getElem_cons_succ, List.getElem_cons_zero, Act.put, List.setIfInBounds_toArray, List.set_cons_zero, List.set_cons_succ]
          refine wpAnyS_take (i := 24) (v := .pointer (some ⟨g, o + i * 4, none⟩)) rfl (by kernel_rfl) (by kernel_rfl) (by kernel_rfl) (fun _ _ _ h => h) (fun _ _ => Iff.rfl) hc (by first | rfl | simp [Region.wanted]) (fun wx hx => ?_) S0 (fun hc S0 => ?_)
          · go_simp
          try simp only [List.getElem_toArray, List.getElem_cons_succ, List.getElem_cons_zero, Act.put, List.setIfInBounds_toArray, List.set_cons_zero, List.set_cons_succ]
          refine wpAnyS_take (i := 25) (v := .pointer (some ⟨g, o + i * 4 + 3, none⟩)) rfl (by kernel_rfl) (by kernel_rfl) (by kernel_rfl) (fun _ _ _ h => h) (fun _ _ => Iff.rfl) hc (by first | rfl | simp [Region.wanted]) (fun wx hx => ?_) S0 (fun hc S0 => ?_)
          · go_simp
          try simp only [List.getElem_toArray, List.getElem_cons_succ, List.getElem_cons_zero, Act.put, List.setIfInBounds_toArray, List.set_cons_zero, List.set_cons_succ]
          refine wpAnyS_take (i := 26) (v := .int .i64 x.cost) rfl (by kernel_rfl) (by kernel_rfl) (by kernel_rfl) (fun _ _ _ h => h) (fun _ _ => Iff.rfl) hc (by first | rfl | simp [Region.wanted]) (fun wx hx => ?_) S0 (fun hc S0 => ?_)
          · have g := (hx.still.cell (p := ⟨g, o + i * 4 + 3, none⟩) hzg).trans e3
            go_simp
          try simp only [List.getElem_toArray, List.getElem_cons_succ, List.getElem_cons_zero, Act.put, List.setIfInBounds_toArray, List.set_cons_zero, List.set_cons_succ]
          refine wpAnyS_one (i := 27) rfl (by kernel_rfl) (by rfl) hc (fun K' hK => ?_)
          go_simp
          refine (HC3.out _).mono ?_
          rintro e w3 ⟨rfl, hb3⟩
          have hB3 := Below.step hB2 hb3
          clear hb3
          refine hK.out _ _ hB3 (fun hc => ?_)
          clear hK K'
          have S0 : StillAt wr #[] w3 := hB3
          try simp only [List.getElem_toArray, List.getElem_cons_succ, List.getElem_cons_zero, Act.put, List.setIfInBounds_toArray, List.set_cons_zero, List.set_cons_succ]
          cases c3 with
          | false =>
            refine wpAnyS_take (i := 28) (v := .bool true) rfl (by kernel_rfl) (by kernel_rfl) (by kernel_rfl) (fun _ _ _ h => h) (fun _ _ => Iff.rfl) hc (by first | rfl | simp [Region.wanted]) (fun wx hx => ?_) S0 (fun hc S0 => ?_)
            · go_simp
            try simp only [List.getElem_toArray, List.getElem_cons_succ, List.getElem_cons_zero, Act.put, List.setIfInBounds_toArray, List.set_cons_zero, List.set_cons_succ]
            refine wpAnyS_one (i := 29) rfl (by kernel_rfl) (by rfl) hc (fun K' hK => ?_)
            go_simp
            refine hK.out _ _ hB3 (fun hc => ?_)
            clear hK K'
            have S0 : StillAt wr #[] w3 := hB3
            try simp only [List.getElem_toArray, List.getElem_cons_succ, List.getElem_cons_zero, Act.put, List.setIfInBounds_toArray, List.set_cons_zero, List.set_cons_succ]
            refine wpAnyS_done (by kernel_rfl) ?_ _
            clear hc S0
            have HBX := hid (Below.step HR.out hB3)
            have HE := hid (show Rw.allOk Rw.ruleOk Rw.Rule.key l [] = false from Rw.allOk_bad HX.out (by rw [HOK.out]; rfl))
            go_wp2_with fail
            go_ret
            exact ⟨ret_bool HE.out.symm, HBX.out⟩
          | true =>
            refine wpAnyS_take (i := 28) (v := .bool false) rfl (by kernel_rfl) (by kernel_rfl) (by kernel_rfl) (fun _ _ _ h => h) (fun _ _ => Iff.rfl) hc (by first | rfl | simp [Region.wanted]) (fun wx hx => ?_) S0 (fun hc S0 => ?_)
            · go_simp
            try simp only [List.getElem_toArray, List.getElem_cons_succ, List.getElem_cons_zero, Act.put, List.setIfInBounds_toArray, List.set_cons_zero, List.set_cons_succ]
            refine wpAnyS_one (i := 29) rfl (by kernel_rfl) (by rfl) hc (fun K' hK => ?_)
            go_simp
            refine hK.out _ _ hB3 (fun hc => ?_)
            clear hK K'
            have S0 : StillAt wr #[] w3 := hB3
            try simp only [List.getElem_toArray, List.getElem_cons_succ, List.getElem_cons_zero, Act.put, List.setIfInBounds_toArray, List.set_cons_zero, List.set_cons_succ]
            refine wpAnyS_done (by kernel_rfl) ?_ _
            clear hc S0
            have HBX := hid (Below.step HR.out hB3)
            have HOK2 := hid (show Rw.ruleOk x = true by rw [HOK.out]; rfl)
            clear hB3 e0 e1 e2 e3 hzg
            go_wp2_with fail
            go_loopw [4] (fun kv wr => ∃ k : Nat, k ≤ i ∧ kv = .int .i64 k ∧ Hid (((l.take k).map Rw.Rule.key).contains x.key = false) ∧ Hid (Below w3.heap.size w3 wr)) (fun kv _ => i - (RowKit.intOf kv).toNat)
            case atStart => exact ⟨0, Nat.zero_le _, rfl, rfl, Below.refl _ _⟩
            case round =>
              obtain ⟨k, hk, rfl, HN, HQ⟩ := hrel
              by_cases hki : k < i
              · obtain ⟨y, hy⟩ : ∃ y, l[k]? = some y := ⟨_, List.getElem?_eq_getElem (by omega)⟩
                have HRQ := hid ((HV.out.below HBX.out).below HQ.out)
                obtain ⟨a', cap', ev, -, -, hr⟩ := HRQ.out
                obtain ⟨g', o', ea, hr⟩ := hr (by omega)
                cases ev
                cases ea
                have hzg := hr.1
                have e0 := row_cell hr HX.out 0 rfl
                have e1 := row_cell hr HX.out 1 rfl
                have e2 := row_cell hr HX.out 2 rfl
                have e3 := row_cell hr HX.out 3 rfl
                have d0 := row_cell hr hy 0 rfl
                have d1 := row_cell hr hy 1 rfl
                have d2 := row_cell hr hy 2 rfl
                have d3 := row_cell hr hy 3 rfl
                have HTW : Hid (∀ W, Calls Tryz.prog 70 #[.agg #[.int .i64 x.script, .string (bs x.from_), .string (bs x.to_), .int .i64 x.cost], .agg #[.int .i64 y.script, .string (bs y.from_), .string (bs y.to_), .int .i64 y.cost]] W (Gives (.bool (decide (x.key = y.key))) W)) := fun W => rtwice_any x y W
                obtain ⟨t, ht⟩ : ∃ t, t = decide (x.key = y.key) := ⟨_, rfl⟩
                rw [← ht] at HTW
                have HT := hid ht
                clear ht
                have hk0 : (0 : Int) ≤ (k : Int) := by omega
                have hk1 : (k : Int) < (l.length : Int) := by omega
                have HY := hid hy
                clear hy hr
                go_upto_region 9 with (fail)
                refine wp_heldS (S := StillAt wr) (by kernel_rfl) ?_
                simp only [List.size_toArray, List.length_cons, List.length_nil, Nat.reduceAdd]
                intro hc
                have S0 : StillAt wr (Array.replicate 9 false) wr.drew := (Below.refl _ _).drew
                refine wpAnyS_take (i := 0) (v := .slice (some ⟨g, o, none⟩) l.length cap) rfl (by kernel_rfl) (by kernel_rfl) (by kernel_rfl) (fun _ _ _ h => h) (fun _ _ => Iff.rfl) hc (by first | rfl | simp [Region.wanted]) (fun wx hx => ?_) S0 (fun hc S0 => ?_)
                · go_simp
                try simp only [List.getElem_toArray, List.getElem_cons_zero, Act.put, List.setIfInBounds_toArray, List.set_cons_zero, List.set_cons_succ]
                refine wpAnyS_take (i := 1) (v := .int .i64 i) rfl (by kernel_rfl) (by kernel_rfl) (by kernel_rfl) (fun _ _ _ h => h) (fun _ _ => Iff.rfl) hc (by first | rfl | simp [Region.wanted]) (fun wx hx => ?_) S0 (fun hc S0 => ?_)
                · go_simp
                try simp only [List.getElem_toArray, List.getElem_cons_succ, List.getElem_cons_zero, Act.put, List.setIfInBounds_toArray, List.set_cons_zero, List.set_cons_succ]
                refine wpAnyS_take (i := 2) (v := .pointer (some ⟨g, o + i * 4, none⟩)) rfl (by kernel_rfl) (by kernel_rfl) (by kernel_rfl) (fun _ _ _ h => h) (fun _ _ => Iff.rfl) hc (by first | rfl | simp [Region.wanted]) (fun wx hx => ?_) S0 (fun hc S0 => ?_)
                · go_simp
                try simp only [List.getElem_toArray, List.getElem_cons_succ, List.getElem_cons_zero, Act.put, List.setIfInBounds_toArray, List.set_cons_zero, List.set_cons_succ]
                refine wpAnyS_take (i := 3) (v := .agg #[.int .i64 x.script, .string (bs x.from_), .string (bs x.to_), .int .i64 x.cost]) rfl (by kernel_rfl) (by kernel_rfl) (by kernel_rfl) (fun _ _ _ h => h) (fun _ _ => Iff.rfl) hc (by first | rfl | simp [Region.wanted]) (fun wx hx => ?_) S0 (fun hc S0 => ?_)
                · have g0 := (hx.still.cell (p := ⟨g, o + i * 4, none⟩) hzg).trans e0; have g1 := (hx.still.cell (p := ⟨g, o + i * 4 + 1, none⟩) hzg).trans e1; have g2 := (hx.still.cell (p := ⟨g, o + i * 4 + 2, none⟩) hzg).trans e2; have g3 := (hx.still.cell (p := ⟨g, o + i * 4 + 3, none⟩) hzg).trans e3
                  go_simp
                try simp only [List.getElem_toArray, List.getElem_cons_succ, List.getElem_cons_zero, Act.put, List.setIfInBounds_toArray, List.set_cons_zero, List.set_cons_succ]
                refine wpAnyS_take (i := 4) (v := .slice (some ⟨g, o, none⟩) l.length cap) rfl (by kernel_rfl) (by kernel_rfl) (by kernel_rfl) (fun _ _ _ h => h) (fun _ _ => Iff.rfl) hc (by first | rfl | simp [Region.wanted]) (fun wx hx => ?_) S0 (fun hc S0 => ?_)
                · go_simp
                try simp only [List.getElem_toArray, List.getElem_cons_succ, List.getElem_cons_zero, Act.put, List.setIfInBounds_toArray, List.set_cons_zero, List.set_cons_succ]
                refine wpAnyS_take (i := 5) (v := .int .i64 k) rfl (by kernel_rfl) (by kernel_rfl) (by kernel_rfl) (fun _ _ _ h => h) (fun _ _ => Iff.rfl) hc (by first | rfl | simp [Region.wanted]) (fun wx hx => ?_) S0 (fun hc S0 => ?_)
                · go_simp
                try simp only [List.getElem_toArray, List.getElem_cons_succ, List.getElem_cons_zero, Act.put, List.setIfInBounds_toArray, List.set_cons_zero, List.set_cons_succ]
                refine wpAnyS_take (i := 6) (v := .pointer (some ⟨g, o + k * 4, none⟩)) rfl (by kernel_rfl) (by kernel_rfl) (by kernel_rfl) (fun _ _ _ h => h) (fun _ _ => Iff.rfl) hc (by first | rfl | simp [Region.wanted]) (fun wx hx => ?_) S0 (fun hc S0 => ?_)
                · go_simp
                try simp only [List.getElem_toArray, List.getElem_cons_succ, List.getElem_cons_zero, Act.put, List.setIfInBounds_toArray, List.set_cons_zero, List.set_cons_succ]
                refine wpAnyS_take (i := 7) (v := .agg #[.int .i64 y.script, .string (bs y.from_), .string (bs y.to_), .int .i64 y.cost]) rfl (by kernel_rfl) (by kernel_rfl) (by kernel_rfl) (fun _ _ _ h => h) (fun _ _ => Iff.rfl) hc (by first | rfl | simp [Region.wanted]) (fun wx hx => ?_) S0 (fun hc S0 => ?_)
                · have g0 := (hx.still.cell (p := ⟨g, o + k * 4, none⟩) hzg).trans d0; have g1 := (hx.still.cell (p := ⟨g, o + k * 4 + 1, none⟩) hzg).trans d1; have g2 := (hx.still.cell (p := ⟨g, o + k * 4 + 2, none⟩) hzg).trans d2; have g3 := (hx.still.cell (p := ⟨g, o + k * 4 + 3, none⟩) hzg).trans d3
                  go_simp
                try simp only [List.getElem_toArray, List.getElem_cons_succ, List.getElem_cons_zero, Act.put, List.setIfInBounds_toArray, List.set_cons_zero, List.set_cons_succ]
                refine wpAnyS_one (i := 8) rfl (by kernel_rfl) (by rfl) hc (fun K' hK => ?_)
                go_simp
                refine (HTW.out _).mono ?_
                rintro e w4 ⟨rfl, hb4⟩
                have hB4 := Below.step (Below.refl _ wr).drew hb4
                clear hb4
                refine hK.out _ _ hB4 (fun hc => ?_)
                clear hK K'
                have S0 : StillAt wr #[] w4 := hB4
                try simp only [List.getElem_toArray, List.getElem_cons_succ, List.getElem_cons_zero, Act.put, List.setIfInBounds_toArray, List.set_cons_zero, List.set_cons_succ]
                refine wpAnyS_done (by kernel_rfl) ?_ _
                clear hc S0
                have HB4 := hid (Below.step HQ.out hB4)
                clear hB4
                cases t with
                | true =>
                  have hxy := of_decide_eq_true HT.out.symm
                  have HE := hid (show Rw.allOk Rw.ruleOk Rw.Rule.key l [] = false from Rw.allOk_twice HX.out HY.out hki hxy)
                  have HB5 := hid (Below.step HBX.out HB4.out)
                  clear hxy
                  go_wp2_with fail
                  go_ret
                  exact ⟨ret_bool HE.out.symm, HB5.out⟩
                | false =>
                  have hxy := of_decide_eq_false HT.out.symm
                  have HN2 := hid (Rw.keys_next HY.out HN.out hxy)
                  clear hxy
                  go_wp2_with fail
                  go_roundw
                  case rel => exact ⟨k + 1, by omega, by go_num, HN2, HB4⟩
                  case measure => simp [RowKit.intOf]; omega
              · have hk2 : k = i := by omega
                subst hk2
                have HK2 := hid (Rw.allOk_next HX.out HK.out HOK2.out HN.out)
                have HB6 := hid (Below.step HBX.out HQ.out)
                go_wp2_with fail
                go_roundw
                case rel => exact ⟨k + 1, by omega, by go_num, HK2, HB6⟩
                case measure => simp [RowKit.intOf]; omega
    · have HE := hid (show Rw.allOk Rw.ruleOk Rw.Rule.key l [] = true by
        have := HK.out
        rwa [List.take_of_length_le (by omega)] at this)
      go_wp2_with fail
      go_ret
      exact ⟨ret_bool HE.out.symm, HR.out⟩

set_option maxRecDepth 100000 in
set_option maxHeartbeats 8000000 in
theorem rdrops_any (l : List Rw.Drop) (v : Value) (most : Int) (w : World) (hv : SlOf w v 3 dropCells l) (hl : l.length ≤ 1000000) (hf : ∀ d ∈ l, DropFits d) : Calls Tryz.prog 58 #[v, .int .i64 most] w (Gives (.bool (Rw.allOk (Rw.dropOk most) Rw.Drop.key l [])) w) := by
  have HV := hid hv
  have HF := hid hf
  obtain ⟨a, cap, rfl, -⟩ := hv
  clear hf
  go_enter Tryz.func58, Tryz.ntmps58
  go_wp2_with fail
  go_loopw [5] (fun iv wr => ∃ i : Nat, i ≤ l.length ∧ iv = .int .i64 i ∧ Hid (Rw.allOk (Rw.dropOk most) Rw.Drop.key (l.take i) [] = true) ∧ Hid (Below w.heap.size w wr)) (fun iv _ => l.length - (RowKit.intOf iv).toNat)
  case atStart => exact ⟨0, Nat.zero_le _, rfl, rfl, Below.refl _ _⟩
  case round =>
    obtain ⟨i, hi_, rfl, HK, HR⟩ := hrel
    by_cases hlt : i < l.length
    · obtain ⟨x, hx⟩ : ∃ x, l[i]? = some x := ⟨_, List.getElem?_eq_getElem hlt⟩
      obtain ⟨g, o, rfl, hr⟩ : ∃ g o, a = some ⟨g, o, none⟩ ∧ RowOf wr g o 3 dropCells l := by
        obtain ⟨a', cap', ev, -, -, hr⟩ := HV.out.below HR.out
        cases ev
        exact hr (by omega)
      have hzg := hr.1
      have e0 := row_cell hr hx 0 rfl
      have e1 := row_cell hr hx 1 rfl
      have e2 := row_cell hr hx 2 rfl
      have HRW := hid hr
      obtain ⟨-, f1⟩ := HF.out x (List.mem_of_getElem? hx)
      have hi0 : (0 : Int) ≤ (i : Int) := by omega
      have hi1 : (i : Int) < (l.length : Int) := by omega
      have HX := hid hx
      have HC1 : Hid (∀ W, Calls Tryz.prog 68 #[.int .i64 x.script, .string (bs x.word), .int .i64 most] W (Gives (.bool (Rw.folded x.script x.word most)) W)) := fun W => rfolded_any x.script x.word most W (by omega)
      have HC3 : Hid (∀ W, Calls Tryz.prog 56 #[.int .i64 x.cost] W (Gives (.bool (Rw.isCost x.cost)) W)) := fun W => rcost_any x.cost W
      have HOK := hid (show Rw.dropOk most x = (Rw.folded x.script x.word most && Rw.isCost x.cost) from rfl)
      obtain ⟨c1, hc1⟩ : ∃ b, b = Rw.folded x.script x.word most := ⟨_, rfl⟩
      obtain ⟨c3, hc3⟩ : ∃ b, b = Rw.isCost x.cost := ⟨_, rfl⟩
      rw [← hc1] at HC1 HOK
      rw [← hc3] at HC3 HOK
      clear hc1 hc3 hr hx
      go_upto_region 4 with (fail)
      refine wp_heldS (S := StillAt wr) (by kernel_rfl) ?_
      simp only [List.size_toArray, List.length_cons, List.length_nil, Nat.reduceAdd]
      intro hc
      have S0 : StillAt wr (Array.replicate 22 false) wr.drew := (Below.refl _ _).drew
      refine wpAnyS_take (i := 0) (v := .slice (some ⟨g, o, none⟩) l.length cap) rfl (by kernel_rfl) (by kernel_rfl) (by kernel_rfl) (fun _ _ _ h => h) (fun _ _ => Iff.rfl) hc (by first | rfl | simp [Region.wanted]) (fun wx hx => ?_) S0 (fun hc S0 => ?_)
      · go_simp
      try simp only [List.getElem_toArray, List.getElem_cons_zero, Act.put, List.setIfInBounds_toArray, List.set_cons_zero, List.set_cons_succ]
      refine wpAnyS_take (i := 1) (v := .int .i64 i) rfl (by kernel_rfl) (by kernel_rfl) (by kernel_rfl) (fun _ _ _ h => h) (fun _ _ => Iff.rfl) hc (by first | rfl | simp [Region.wanted]) (fun wx hx => ?_) S0 (fun hc S0 => ?_)
      · go_simp
      try simp only [List.getElem_toArray, List.getElem_cons_succ, List.getElem_cons_zero, Act.put, List.setIfInBounds_toArray, List.set_cons_zero, List.set_cons_succ]
      refine wpAnyS_take (i := 2) (v := .pointer (some ⟨g, o + i * 3, none⟩)) rfl (by kernel_rfl) (by kernel_rfl) (by kernel_rfl) (fun _ _ _ h => h) (fun _ _ => Iff.rfl) hc (by first | rfl | simp [Region.wanted]) (fun wx hx => ?_) S0 (fun hc S0 => ?_)
      · go_simp
      try simp only [List.getElem_toArray, List.getElem_cons_succ, List.getElem_cons_zero, Act.put, List.setIfInBounds_toArray, List.set_cons_zero, List.set_cons_succ]
      refine wpAnyS_take (i := 3) (v := .pointer (some ⟨g, o + i * 3, none⟩)) rfl (by kernel_rfl) (by kernel_rfl) (by kernel_rfl) (fun _ _ _ h => h) (fun _ _ => Iff.rfl) hc (by first | rfl | simp [Region.wanted]) (fun wx hx => ?_) S0 (fun hc S0 => ?_)
      · go_simp
      try simp only [List.getElem_toArray, List.getElem_cons_succ, List.getElem_cons_zero, Act.put, List.setIfInBounds_toArray, List.set_cons_zero, List.set_cons_succ]
      refine wpAnyS_take (i := 4) (v := .int .i64 x.script) rfl (by kernel_rfl) (by kernel_rfl) (by kernel_rfl) (fun _ _ _ h => h) (fun _ _ => Iff.rfl) hc (by first | rfl | simp [Region.wanted]) (fun wx hx => ?_) S0 (fun hc S0 => ?_)
      · have g := (hx.still.cell (p := ⟨g, o + i * 3, none⟩) hzg).trans e0
        go_simp
      try simp only [List.getElem_toArray, List.getElem_cons_succ, List.getElem_cons_zero, Act.put, List.setIfInBounds_toArray, List.set_cons_zero, List.set_cons_succ]
      refine wpAnyS_take (i := 5) (v := .slice (some ⟨g, o, none⟩) l.length cap) rfl (by kernel_rfl) (by kernel_rfl) (by kernel_rfl) (fun _ _ _ h => h) (fun _ _ => Iff.rfl) hc (by first | rfl | simp [Region.wanted]) (fun wx hx => ?_) S0 (fun hc S0 => ?_)
      · go_simp
      try simp only [List.getElem_toArray, List.getElem_cons_succ, List.getElem_cons_zero, Act.put, List.setIfInBounds_toArray, List.set_cons_zero, List.set_cons_succ]
      refine wpAnyS_take (i := 6) (v := .int .i64 i) rfl (by kernel_rfl) (by kernel_rfl) (by kernel_rfl) (fun _ _ _ h => h) (fun _ _ => Iff.rfl) hc (by first | rfl | simp [Region.wanted]) (fun wx hx => ?_) S0 (fun hc S0 => ?_)
      · go_simp
      try simp only [List.getElem_toArray, List.getElem_cons_succ, List.getElem_cons_zero, Act.put, List.setIfInBounds_toArray, List.set_cons_zero, List.set_cons_succ]
      refine wpAnyS_take (i := 7) (v := .pointer (some ⟨g, o + i * 3, none⟩)) rfl (by kernel_rfl) (by kernel_rfl) (by kernel_rfl) (fun _ _ _ h => h) (fun _ _ => Iff.rfl) hc (by first | rfl | simp [Region.wanted]) (fun wx hx => ?_) S0 (fun hc S0 => ?_)
      · go_simp
      try simp only [List.getElem_toArray, List.getElem_cons_succ, List.getElem_cons_zero, Act.put, List.setIfInBounds_toArray, List.set_cons_zero, List.set_cons_succ]
      refine wpAnyS_take (i := 8) (v := .pointer (some ⟨g, o + i * 3 + 1, none⟩)) rfl (by kernel_rfl) (by kernel_rfl) (by kernel_rfl) (fun _ _ _ h => h) (fun _ _ => Iff.rfl) hc (by first | rfl | simp [Region.wanted]) (fun wx hx => ?_) S0 (fun hc S0 => ?_)
      · go_simp
      try simp only [List.getElem_toArray, List.getElem_cons_succ, List.getElem_cons_zero, Act.put, List.setIfInBounds_toArray, List.set_cons_zero, List.set_cons_succ]
      refine wpAnyS_take (i := 9) (v := .string (bs x.word)) rfl (by kernel_rfl) (by kernel_rfl) (by kernel_rfl) (fun _ _ _ h => h) (fun _ _ => Iff.rfl) hc (by first | rfl | simp [Region.wanted]) (fun wx hx => ?_) S0 (fun hc S0 => ?_)
      · have g := (hx.still.cell (p := ⟨g, o + i * 3 + 1, none⟩) hzg).trans e1
        go_simp
      try simp only [List.getElem_toArray, List.getElem_cons_succ, List.getElem_cons_zero, Act.put, List.setIfInBounds_toArray, List.set_cons_zero, List.set_cons_succ]
      refine wpAnyS_take (i := 10) (v := .int .i64 most) rfl (by kernel_rfl) (by kernel_rfl) (by kernel_rfl) (fun _ _ _ h => h) (fun _ _ => Iff.rfl) hc (by first | rfl | simp [Region.wanted]) (fun wx hx => ?_) S0 (fun hc S0 => ?_)
      · go_simp
      try simp only [List.getElem_toArray, List.getElem_cons_succ, List.getElem_cons_zero, Act.put, List.setIfInBounds_toArray, List.set_cons_zero, List.set_cons_succ]
      refine wpAnyS_one (i := 11) rfl (by kernel_rfl) (by rfl) hc (fun K' hK => ?_)
      go_simp
      refine (HC1.out _).mono ?_
      rintro e w1 ⟨rfl, hb1⟩
      have hB1 := Below.step (Below.refl _ wr).drew hb1
      clear hb1
      refine hK.out _ _ hB1 (fun hc => ?_)
      clear hK K'
      have S0 : StillAt wr #[] w1 := hB1
      try simp only [List.getElem_toArray, List.getElem_cons_succ, List.getElem_cons_zero, Act.put, List.setIfInBounds_toArray, List.set_cons_zero, List.set_cons_succ]
      cases c1 with
      | false =>
        refine wpAnyS_take (i := 12) (v := .bool true) rfl (by kernel_rfl) (by kernel_rfl) (by kernel_rfl) (fun _ _ _ h => h) (fun _ _ => Iff.rfl) hc (by first | rfl | simp [Region.wanted]) (fun wx hx => ?_) S0 (fun hc S0 => ?_)
        · go_simp
        try simp only [List.getElem_toArray, List.getElem_cons_succ, List.getElem_cons_zero, Act.put, List.setIfInBounds_toArray, List.set_cons_zero, List.set_cons_succ]
        refine wpAnyS_take (i := 13) (v := .bool true) rfl (by kernel_rfl) (by kernel_rfl) (by kernel_rfl) (fun _ _ _ h => h) (fun _ _ => Iff.rfl) hc (by first | rfl | simp [Region.wanted]) (fun wx hx => ?_) S0 (fun hc S0 => ?_)
        · go_simp
        try simp only [List.getElem_toArray, List.getElem_cons_succ, List.getElem_cons_zero, Act.put, List.setIfInBounds_toArray, List.set_cons_zero, List.set_cons_succ]
        refine wpAnyS_skip (i := 14) rfl (by kernel_rfl) (by kernel_rfl) (by kernel_rfl) (fun _ _ _ h => h) (fun _ _ => Iff.rfl) hc (by rfl) S0 (fun hc S0 => ?_)
        try simp only [List.getElem_toArray, List.getElem_cons_succ, List.getElem_cons_zero, Act.put, List.setIfInBounds_toArray, List.set_cons_zero, List.set_cons_succ]
        refine wpAnyS_skip (i := 15) rfl (by kernel_rfl) (by kernel_rfl) (by kernel_rfl) (fun _ _ _ h => h) (fun _ _ => Iff.rfl) hc (by rfl) S0 (fun hc S0 => ?_)
        try simp only [List.getElem_toArray, List.getElem_cons_succ, List.getElem_cons_zero, Act.put, List.setIfInBounds_toArray, List.set_cons_zero, List.set_cons_succ]
        refine wpAnyS_skip (i := 16) rfl (by kernel_rfl) (by kernel_rfl) (by kernel_rfl) (fun _ _ _ h => h) (fun _ _ => Iff.rfl) hc (by rfl) S0 (fun hc S0 => ?_)
        try simp only [List.getElem_toArray, List.getElem_cons_succ, List.getElem_cons_zero, Act.put, List.setIfInBounds_toArray, List.set_cons_zero, List.set_cons_succ]
        refine wpAnyS_skip (i := 17) rfl (by kernel_rfl) (by kernel_rfl) (by kernel_rfl) (fun _ _ _ h => h) (fun _ _ => Iff.rfl) hc (by rfl) S0 (fun hc S0 => ?_)
        try simp only [List.getElem_toArray, List.getElem_cons_succ, List.getElem_cons_zero, Act.put, List.setIfInBounds_toArray, List.set_cons_zero, List.set_cons_succ]
        refine wpAnyS_skip (i := 18) rfl (by kernel_rfl) (by kernel_rfl) (by kernel_rfl) (fun _ _ _ h => h) (fun _ _ => Iff.rfl) hc (by rfl) S0 (fun hc S0 => ?_)
        try simp only [List.getElem_toArray, List.getElem_cons_succ, List.getElem_cons_zero, Act.put, List.setIfInBounds_toArray, List.set_cons_zero, List.set_cons_succ]
        refine wpAnyS_skip (i := 19) rfl (by kernel_rfl) (by kernel_rfl) (by kernel_rfl) (fun _ _ _ h => h) (fun _ _ => Iff.rfl) hc (by rfl) S0 (fun hc S0 => ?_)
        try simp only [List.getElem_toArray, List.getElem_cons_succ, List.getElem_cons_zero, Act.put, List.setIfInBounds_toArray, List.set_cons_zero, List.set_cons_succ]
        refine wpAnyS_skip (i := 20) rfl (by kernel_rfl) (by kernel_rfl) (by kernel_rfl) (fun _ _ _ h => h) (fun _ _ => Iff.rfl) hc (by rfl) S0 (fun hc S0 => ?_)
        try simp only [List.getElem_toArray, List.getElem_cons_succ, List.getElem_cons_zero, Act.put, List.setIfInBounds_toArray, List.set_cons_zero, List.set_cons_succ]
        refine wpAnyS_one (i := 21) rfl (by kernel_rfl) (by rfl) hc (fun K' hK => ?_)
        go_simp
        refine hK.out _ _ hB1 (fun hc => ?_)
        clear hK K'
        have S0 : StillAt wr #[] w1 := hB1
        try simp only [List.getElem_toArray, List.getElem_cons_succ, List.getElem_cons_zero, Act.put, List.setIfInBounds_toArray, List.set_cons_zero, List.set_cons_succ]
        refine wpAnyS_done (by kernel_rfl) ?_ _
        clear hc S0
        have HBX := hid (Below.step HR.out hB1)
        have HE := hid (show Rw.allOk (Rw.dropOk most) Rw.Drop.key l [] = false from Rw.allOk_bad HX.out (by rw [HOK.out]; rfl))
        go_wp2_with fail
        go_ret
        exact ⟨ret_bool HE.out.symm, HBX.out⟩
      | true =>
        refine wpAnyS_take (i := 12) (v := .bool false) rfl (by kernel_rfl) (by kernel_rfl) (by kernel_rfl) (fun _ _ _ h => h) (fun _ _ => Iff.rfl) hc (by first | rfl | simp [Region.wanted]) (fun wx hx => ?_) S0 (fun hc S0 => ?_)
        · go_simp
        try simp only [List.getElem_toArray, List.getElem_cons_succ, List.getElem_cons_zero, Act.put, List.setIfInBounds_toArray, List.set_cons_zero, List.set_cons_succ]
        refine wpAnyS_take (i := 13) (v := .bool false) rfl (by kernel_rfl) (by kernel_rfl) (by kernel_rfl) (fun _ _ _ h => h) (fun _ _ => Iff.rfl) hc (by first | rfl | simp [Region.wanted]) (fun wx hx => ?_) S0 (fun hc S0 => ?_)
        · go_simp
        try simp only [List.getElem_toArray, List.getElem_cons_succ, List.getElem_cons_zero, Act.put, List.setIfInBounds_toArray, List.set_cons_zero, List.set_cons_succ]
        refine wpAnyS_take (i := 14) (v := .slice (some ⟨g, o, none⟩) l.length cap) rfl (by kernel_rfl) (by kernel_rfl) (by kernel_rfl) (fun _ _ _ h => h) (fun _ _ => Iff.rfl) hc (by first | rfl | simp [Region.wanted]) (fun wx hx => ?_) S0 (fun hc S0 => ?_)
        · go_simp
        try simp only [List.getElem_toArray, List.getElem_cons_succ, List.getElem_cons_zero, Act.put, List.setIfInBounds_toArray, List.set_cons_zero, List.set_cons_succ]
        refine wpAnyS_take (i := 15) (v := .int .i64 i) rfl (by kernel_rfl) (by kernel_rfl) (by kernel_rfl) (fun _ _ _ h => h) (fun _ _ => Iff.rfl) hc (by first | rfl | simp [Region.wanted]) (fun wx hx => ?_) S0 (fun hc S0 => ?_)
        · go_simp
        try simp only [List.getElem_toArray, List.getElem_cons_succ, List.getElem_cons_zero, Act.put, List.setIfInBounds_toArray, List.set_cons_zero, List.set_cons_succ]
        refine wpAnyS_take (i := 16) (v := .pointer (some ⟨g, o + i * 3, none⟩)) rfl (by kernel_rfl) (by kernel_rfl) (by kernel_rfl) (fun _ _ _ h => h) (fun _ _ => Iff.rfl) hc (by first | rfl | simp [Region.wanted]) (fun wx hx => ?_) S0 (fun hc S0 => ?_)
        · go_simp
        try simp only [List.getElem_toArray, List.getElem_cons_succ, List.getElem_cons_zero, Act.put, List.setIfInBounds_toArray, List.set_cons_zero, List.set_cons_succ]
        refine wpAnyS_take (i := 17) (v := .pointer (some ⟨g, o + i * 3 + 2, none⟩)) rfl (by kernel_rfl) (by kernel_rfl) (by kernel_rfl) (fun _ _ _ h => h) (fun _ _ => Iff.rfl) hc (by first | rfl | simp [Region.wanted]) (fun wx hx => ?_) S0 (fun hc S0 => ?_)
        · go_simp
        try simp only [List.getElem_toArray, List.getElem_cons_succ, List.getElem_cons_zero, Act.put, List.setIfInBounds_toArray, List.set_cons_zero, List.set_cons_succ]
        refine wpAnyS_take (i := 18) (v := .int .i64 x.cost) rfl (by kernel_rfl) (by kernel_rfl) (by kernel_rfl) (fun _ _ _ h => h) (fun _ _ => Iff.rfl) hc (by first | rfl | simp [Region.wanted]) (fun wx hx => ?_) S0 (fun hc S0 => ?_)
        · have g := (hx.still.cell (p := ⟨g, o + i * 3 + 2, none⟩) hzg).trans e2
          go_simp
        try simp only [List.getElem_toArray, List.getElem_cons_succ, List.getElem_cons_zero, Act.put, List.setIfInBounds_toArray, List.set_cons_zero, List.set_cons_succ]
        refine wpAnyS_one (i := 19) rfl (by kernel_rfl) (by rfl) hc (fun K' hK => ?_)
        go_simp
        refine (HC3.out _).mono ?_
        rintro e w3 ⟨rfl, hb3⟩
        have hB3 := Below.step hB1 hb3
        clear hb3
        refine hK.out _ _ hB3 (fun hc => ?_)
        clear hK K'
        have S0 : StillAt wr #[] w3 := hB3
        try simp only [List.getElem_toArray, List.getElem_cons_succ, List.getElem_cons_zero, Act.put, List.setIfInBounds_toArray, List.set_cons_zero, List.set_cons_succ]
        cases c3 with
        | false =>
          refine wpAnyS_take (i := 20) (v := .bool true) rfl (by kernel_rfl) (by kernel_rfl) (by kernel_rfl) (fun _ _ _ h => h) (fun _ _ => Iff.rfl) hc (by first | rfl | simp [Region.wanted]) (fun wx hx => ?_) S0 (fun hc S0 => ?_)
          · go_simp
          try simp only [List.getElem_toArray, List.getElem_cons_succ, List.getElem_cons_zero, Act.put, List.setIfInBounds_toArray, List.set_cons_zero, List.set_cons_succ]
          refine wpAnyS_one (i := 21) rfl (by kernel_rfl) (by rfl) hc (fun K' hK => ?_)
          go_simp
          refine hK.out _ _ hB3 (fun hc => ?_)
          clear hK K'
          have S0 : StillAt wr #[] w3 := hB3
          try simp only [List.getElem_toArray, List.getElem_cons_succ, List.getElem_cons_zero, Act.put, List.setIfInBounds_toArray, List.set_cons_zero, List.set_cons_succ]
          refine wpAnyS_done (by kernel_rfl) ?_ _
          clear hc S0
          have HBX := hid (Below.step HR.out hB3)
          have HE := hid (show Rw.allOk (Rw.dropOk most) Rw.Drop.key l [] = false from Rw.allOk_bad HX.out (by rw [HOK.out]; rfl))
          go_wp2_with fail
          go_ret
          exact ⟨ret_bool HE.out.symm, HBX.out⟩
        | true =>
          refine wpAnyS_take (i := 20) (v := .bool false) rfl (by kernel_rfl) (by kernel_rfl) (by kernel_rfl) (fun _ _ _ h => h) (fun _ _ => Iff.rfl) hc (by first | rfl | simp [Region.wanted]) (fun wx hx => ?_) S0 (fun hc S0 => ?_)
          · go_simp
          try simp only [List.getElem_toArray, List.getElem_cons_succ, List.getElem_cons_zero, Act.put, List.setIfInBounds_toArray, List.set_cons_zero, List.set_cons_succ]
          refine wpAnyS_one (i := 21) rfl (by kernel_rfl) (by rfl) hc (fun K' hK => ?_)
          go_simp
          refine hK.out _ _ hB3 (fun hc => ?_)
          clear hK K'
          have S0 : StillAt wr #[] w3 := hB3
          try simp only [List.getElem_toArray, List.getElem_cons_succ, List.getElem_cons_zero, Act.put, List.setIfInBounds_toArray, List.set_cons_zero, List.set_cons_succ]
          refine wpAnyS_done (by kernel_rfl) ?_ _
          clear hc S0
          have HBX := hid (Below.step HR.out hB3)
          have HOK2 := hid (show Rw.dropOk most x = true by rw [HOK.out]; rfl)
          clear hB3 e0 e1 e2 hzg
          go_wp2_with fail
          go_loopw [6] (fun kv wr => ∃ k : Nat, k ≤ i ∧ kv = .int .i64 k ∧ Hid (((l.take k).map Rw.Drop.key).contains x.key = false) ∧ Hid (Below w3.heap.size w3 wr)) (fun kv _ => i - (RowKit.intOf kv).toNat)
          case atStart => exact ⟨0, Nat.zero_le _, rfl, rfl, Below.refl _ _⟩
          case round =>
            obtain ⟨k, hk, rfl, HN, HQ⟩ := hrel
            by_cases hki : k < i
            · obtain ⟨y, hy⟩ : ∃ y, l[k]? = some y := ⟨_, List.getElem?_eq_getElem (by omega)⟩
              have HRQ := hid ((HV.out.below HBX.out).below HQ.out)
              obtain ⟨a', cap', ev, -, -, hr⟩ := HRQ.out
              obtain ⟨g', o', ea, hr⟩ := hr (by omega)
              cases ev
              cases ea
              have hzg := hr.1
              have e0 := row_cell hr HX.out 0 rfl
              have e1 := row_cell hr HX.out 1 rfl
              have d0 := row_cell hr hy 0 rfl
              have d1 := row_cell hr hy 1 rfl
              have hk0 : (0 : Int) ≤ (k : Int) := by omega
              have hk1 : (k : Int) < (l.length : Int) := by omega
              have HY := hid hy
              clear hy hr
              obtain ⟨t, ht⟩ : ∃ t, t = (x.script == y.script) := ⟨_, rfl⟩
              have HT := hid ht
              clear ht
              obtain ⟨u, hu⟩ : ∃ u, u = ((bs x.word).toList == (bs y.word).toList) := ⟨_, rfl⟩
              have HU := hid hu
              clear hu
              go_upto_region 9 with (fail)
              refine wp_heldS (S := StillAt wr) (by kernel_rfl) ?_
              simp only [List.size_toArray, List.length_cons, List.length_nil, Nat.reduceAdd]
              intro hc
              have S0 : StillAt wr (Array.replicate 24 false) wr.drew := (Below.refl _ _).drew
              refine wpAnyS_take (i := 0) (v := .slice (some ⟨g, o, none⟩) l.length cap) rfl (by kernel_rfl) (by kernel_rfl) (by kernel_rfl) (fun _ _ _ h => h) (fun _ _ => Iff.rfl) hc (by first | rfl | simp [Region.wanted]) (fun wx hx => ?_) S0 (fun hc S0 => ?_)
              · go_simp
              try simp only [List.getElem_toArray, List.getElem_cons_zero, Act.put, List.setIfInBounds_toArray, List.set_cons_zero, List.set_cons_succ]
              refine wpAnyS_take (i := 1) (v := .int .i64 i) rfl (by kernel_rfl) (by kernel_rfl) (by kernel_rfl) (fun _ _ _ h => h) (fun _ _ => Iff.rfl) hc (by first | rfl | simp [Region.wanted]) (fun wx hx => ?_) S0 (fun hc S0 => ?_)
              · go_simp
              try simp only [List.getElem_toArray, List.getElem_cons_succ, List.getElem_cons_zero, Act.put, List.setIfInBounds_toArray, List.set_cons_zero, List.set_cons_succ]
              refine wpAnyS_take (i := 2) (v := .pointer (some ⟨g, o + i * 3, none⟩)) rfl (by kernel_rfl) (by kernel_rfl) (by kernel_rfl) (fun _ _ _ h => h) (fun _ _ => Iff.rfl) hc (by first | rfl | simp [Region.wanted]) (fun wx hx => ?_) S0 (fun hc S0 => ?_)
              · go_simp
              try simp only [List.getElem_toArray, List.getElem_cons_succ, List.getElem_cons_zero, Act.put, List.setIfInBounds_toArray, List.set_cons_zero, List.set_cons_succ]
              refine wpAnyS_take (i := 3) (v := .pointer (some ⟨g, o + i * 3, none⟩)) rfl (by kernel_rfl) (by kernel_rfl) (by kernel_rfl) (fun _ _ _ h => h) (fun _ _ => Iff.rfl) hc (by first | rfl | simp [Region.wanted]) (fun wx hx => ?_) S0 (fun hc S0 => ?_)
              · go_simp
              try simp only [List.getElem_toArray, List.getElem_cons_succ, List.getElem_cons_zero, Act.put, List.setIfInBounds_toArray, List.set_cons_zero, List.set_cons_succ]
              refine wpAnyS_take (i := 4) (v := .int .i64 x.script) rfl (by kernel_rfl) (by kernel_rfl) (by kernel_rfl) (fun _ _ _ h => h) (fun _ _ => Iff.rfl) hc (by first | rfl | simp [Region.wanted]) (fun wx hx => ?_) S0 (fun hc S0 => ?_)
              · have g := (hx.still.cell (p := ⟨g, o + i * 3, none⟩) hzg).trans e0
                go_simp
              try simp only [List.getElem_toArray, List.getElem_cons_succ, List.getElem_cons_zero, Act.put, List.setIfInBounds_toArray, List.set_cons_zero, List.set_cons_succ]
              refine wpAnyS_take (i := 5) (v := .slice (some ⟨g, o, none⟩) l.length cap) rfl (by kernel_rfl) (by kernel_rfl) (by kernel_rfl) (fun _ _ _ h => h) (fun _ _ => Iff.rfl) hc (by first | rfl | simp [Region.wanted]) (fun wx hx => ?_) S0 (fun hc S0 => ?_)
              · go_simp
              try simp only [List.getElem_toArray, List.getElem_cons_succ, List.getElem_cons_zero, Act.put, List.setIfInBounds_toArray, List.set_cons_zero, List.set_cons_succ]
              refine wpAnyS_take (i := 6) (v := .int .i64 k) rfl (by kernel_rfl) (by kernel_rfl) (by kernel_rfl) (fun _ _ _ h => h) (fun _ _ => Iff.rfl) hc (by first | rfl | simp [Region.wanted]) (fun wx hx => ?_) S0 (fun hc S0 => ?_)
              · go_simp
              try simp only [List.getElem_toArray, List.getElem_cons_succ, List.getElem_cons_zero, Act.put, List.setIfInBounds_toArray, List.set_cons_zero, List.set_cons_succ]
              refine wpAnyS_take (i := 7) (v := .pointer (some ⟨g, o + k * 3, none⟩)) rfl (by kernel_rfl) (by kernel_rfl) (by kernel_rfl) (fun _ _ _ h => h) (fun _ _ => Iff.rfl) hc (by first | rfl | simp [Region.wanted]) (fun wx hx => ?_) S0 (fun hc S0 => ?_)
              · go_simp
              try simp only [List.getElem_toArray, List.getElem_cons_succ, List.getElem_cons_zero, Act.put, List.setIfInBounds_toArray, List.set_cons_zero, List.set_cons_succ]
              refine wpAnyS_take (i := 8) (v := .pointer (some ⟨g, o + k * 3, none⟩)) rfl (by kernel_rfl) (by kernel_rfl) (by kernel_rfl) (fun _ _ _ h => h) (fun _ _ => Iff.rfl) hc (by first | rfl | simp [Region.wanted]) (fun wx hx => ?_) S0 (fun hc S0 => ?_)
              · go_simp
              try simp only [List.getElem_toArray, List.getElem_cons_succ, List.getElem_cons_zero, Act.put, List.setIfInBounds_toArray, List.set_cons_zero, List.set_cons_succ]
              refine wpAnyS_take (i := 9) (v := .int .i64 y.script) rfl (by kernel_rfl) (by kernel_rfl) (by kernel_rfl) (fun _ _ _ h => h) (fun _ _ => Iff.rfl) hc (by first | rfl | simp [Region.wanted]) (fun wx hx => ?_) S0 (fun hc S0 => ?_)
              · have g := (hx.still.cell (p := ⟨g, o + k * 3, none⟩) hzg).trans d0
                go_simp
              try simp only [List.getElem_toArray, List.getElem_cons_succ, List.getElem_cons_zero, Act.put, List.setIfInBounds_toArray, List.set_cons_zero, List.set_cons_succ]
              cases t with
              | false =>
                refine wpAnyS_take (i := 10) (v := .bool false) rfl (by kernel_rfl) (by kernel_rfl) (by kernel_rfl) (fun _ _ _ h => h) (fun _ _ => Iff.rfl) hc (by first | rfl | simp [Region.wanted]) (fun wx hx => ?_) S0 (fun hc S0 => ?_)
                · have ht := HT.out.symm
                  go_simp
                try simp only [List.getElem_toArray, List.getElem_cons_succ, List.getElem_cons_zero, Act.put, List.setIfInBounds_toArray, List.set_cons_zero, List.set_cons_succ]
                refine wpAnyS_take (i := 11) (v := .bool false) rfl (by kernel_rfl) (by kernel_rfl) (by kernel_rfl) (fun _ _ _ h => h) (fun _ _ => Iff.rfl) hc (by first | rfl | simp [Region.wanted]) (fun wx hx => ?_) S0 (fun hc S0 => ?_)
                · go_simp
                try simp only [List.getElem_toArray, List.getElem_cons_succ, List.getElem_cons_zero, Act.put, List.setIfInBounds_toArray, List.set_cons_zero, List.set_cons_succ]
                refine wpAnyS_skip (i := 12) rfl (by kernel_rfl) (by kernel_rfl) (by kernel_rfl) (fun _ _ _ h => h) (fun _ _ => Iff.rfl) hc (by rfl) S0 (fun hc S0 => ?_)
                try simp only [List.getElem_toArray, List.getElem_cons_succ, List.getElem_cons_zero, Act.put, List.setIfInBounds_toArray, List.set_cons_zero, List.set_cons_succ]
                refine wpAnyS_skip (i := 13) rfl (by kernel_rfl) (by kernel_rfl) (by kernel_rfl) (fun _ _ _ h => h) (fun _ _ => Iff.rfl) hc (by rfl) S0 (fun hc S0 => ?_)
                try simp only [List.getElem_toArray, List.getElem_cons_succ, List.getElem_cons_zero, Act.put, List.setIfInBounds_toArray, List.set_cons_zero, List.set_cons_succ]
                refine wpAnyS_skip (i := 14) rfl (by kernel_rfl) (by kernel_rfl) (by kernel_rfl) (fun _ _ _ h => h) (fun _ _ => Iff.rfl) hc (by rfl) S0 (fun hc S0 => ?_)
                try simp only [List.getElem_toArray, List.getElem_cons_succ, List.getElem_cons_zero, Act.put, List.setIfInBounds_toArray, List.set_cons_zero, List.set_cons_succ]
                refine wpAnyS_skip (i := 15) rfl (by kernel_rfl) (by kernel_rfl) (by kernel_rfl) (fun _ _ _ h => h) (fun _ _ => Iff.rfl) hc (by rfl) S0 (fun hc S0 => ?_)
                try simp only [List.getElem_toArray, List.getElem_cons_succ, List.getElem_cons_zero, Act.put, List.setIfInBounds_toArray, List.set_cons_zero, List.set_cons_succ]
                refine wpAnyS_skip (i := 16) rfl (by kernel_rfl) (by kernel_rfl) (by kernel_rfl) (fun _ _ _ h => h) (fun _ _ => Iff.rfl) hc (by rfl) S0 (fun hc S0 => ?_)
                try simp only [List.getElem_toArray, List.getElem_cons_succ, List.getElem_cons_zero, Act.put, List.setIfInBounds_toArray, List.set_cons_zero, List.set_cons_succ]
                refine wpAnyS_skip (i := 17) rfl (by kernel_rfl) (by kernel_rfl) (by kernel_rfl) (fun _ _ _ h => h) (fun _ _ => Iff.rfl) hc (by rfl) S0 (fun hc S0 => ?_)
                try simp only [List.getElem_toArray, List.getElem_cons_succ, List.getElem_cons_zero, Act.put, List.setIfInBounds_toArray, List.set_cons_zero, List.set_cons_succ]
                refine wpAnyS_skip (i := 18) rfl (by kernel_rfl) (by kernel_rfl) (by kernel_rfl) (fun _ _ _ h => h) (fun _ _ => Iff.rfl) hc (by rfl) S0 (fun hc S0 => ?_)
                try simp only [List.getElem_toArray, List.getElem_cons_succ, List.getElem_cons_zero, Act.put, List.setIfInBounds_toArray, List.set_cons_zero, List.set_cons_succ]
                refine wpAnyS_skip (i := 19) rfl (by kernel_rfl) (by kernel_rfl) (by kernel_rfl) (fun _ _ _ h => h) (fun _ _ => Iff.rfl) hc (by rfl) S0 (fun hc S0 => ?_)
                try simp only [List.getElem_toArray, List.getElem_cons_succ, List.getElem_cons_zero, Act.put, List.setIfInBounds_toArray, List.set_cons_zero, List.set_cons_succ]
                refine wpAnyS_skip (i := 20) rfl (by kernel_rfl) (by kernel_rfl) (by kernel_rfl) (fun _ _ _ h => h) (fun _ _ => Iff.rfl) hc (by rfl) S0 (fun hc S0 => ?_)
                try simp only [List.getElem_toArray, List.getElem_cons_succ, List.getElem_cons_zero, Act.put, List.setIfInBounds_toArray, List.set_cons_zero, List.set_cons_succ]
                refine wpAnyS_skip (i := 21) rfl (by kernel_rfl) (by kernel_rfl) (by kernel_rfl) (fun _ _ _ h => h) (fun _ _ => Iff.rfl) hc (by rfl) S0 (fun hc S0 => ?_)
                try simp only [List.getElem_toArray, List.getElem_cons_succ, List.getElem_cons_zero, Act.put, List.setIfInBounds_toArray, List.set_cons_zero, List.set_cons_succ]
                refine wpAnyS_skip (i := 22) rfl (by kernel_rfl) (by kernel_rfl) (by kernel_rfl) (fun _ _ _ h => h) (fun _ _ => Iff.rfl) hc (by rfl) S0 (fun hc S0 => ?_)
                try simp only [List.getElem_toArray, List.getElem_cons_succ, List.getElem_cons_zero, Act.put, List.setIfInBounds_toArray, List.set_cons_zero, List.set_cons_succ]
                refine wpAnyS_one (i := 23) rfl (by kernel_rfl) (by rfl) hc (fun K' hK => ?_)
                go_simp
                refine hK.out _ _ (Below.refl _ _).drew (fun hc => ?_)
                clear hK K'
                have S0 : StillAt wr #[] wr.drew := (Below.refl _ _).drew
                try simp only [List.getElem_toArray, List.getElem_cons_succ, List.getElem_cons_zero, Act.put, List.setIfInBounds_toArray, List.set_cons_zero, List.set_cons_succ]
                refine wpAnyS_done (by kernel_rfl) ?_ _
                clear hc S0
                have HN2 := hid (Rw.keys_next HY.out HN.out (fun h => by have h2 : x.script = y.script := congrArg Prod.fst h; exact beq_eq_false_iff_ne.1 HT.out.symm h2))
                have HB4 := hid (HQ.out.drew)
                go_wp2_with fail
                go_roundw
                case rel => exact ⟨k + 1, by omega, by go_num, HN2, HB4⟩
                case measure => simp [RowKit.intOf]; omega
              | true =>
                refine wpAnyS_take (i := 10) (v := .bool true) rfl (by kernel_rfl) (by kernel_rfl) (by kernel_rfl) (fun _ _ _ h => h) (fun _ _ => Iff.rfl) hc (by first | rfl | simp [Region.wanted]) (fun wx hx => ?_) S0 (fun hc S0 => ?_)
                · have ht := HT.out.symm
                  go_simp
                try simp only [List.getElem_toArray, List.getElem_cons_succ, List.getElem_cons_zero, Act.put, List.setIfInBounds_toArray, List.set_cons_zero, List.set_cons_succ]
                refine wpAnyS_take (i := 11) (v := .bool true) rfl (by kernel_rfl) (by kernel_rfl) (by kernel_rfl) (fun _ _ _ h => h) (fun _ _ => Iff.rfl) hc (by first | rfl | simp [Region.wanted]) (fun wx hx => ?_) S0 (fun hc S0 => ?_)
                · go_simp
                try simp only [List.getElem_toArray, List.getElem_cons_succ, List.getElem_cons_zero, Act.put, List.setIfInBounds_toArray, List.set_cons_zero, List.set_cons_succ]
                refine wpAnyS_take (i := 12) (v := .slice (some ⟨g, o, none⟩) l.length cap) rfl (by kernel_rfl) (by kernel_rfl) (by kernel_rfl) (fun _ _ _ h => h) (fun _ _ => Iff.rfl) hc (by first | rfl | simp [Region.wanted]) (fun wx hx => ?_) S0 (fun hc S0 => ?_)
                · go_simp
                try simp only [List.getElem_toArray, List.getElem_cons_succ, List.getElem_cons_zero, Act.put, List.setIfInBounds_toArray, List.set_cons_zero, List.set_cons_succ]
                refine wpAnyS_take (i := 13) (v := .int .i64 i) rfl (by kernel_rfl) (by kernel_rfl) (by kernel_rfl) (fun _ _ _ h => h) (fun _ _ => Iff.rfl) hc (by first | rfl | simp [Region.wanted]) (fun wx hx => ?_) S0 (fun hc S0 => ?_)
                · go_simp
                try simp only [List.getElem_toArray, List.getElem_cons_succ, List.getElem_cons_zero, Act.put, List.setIfInBounds_toArray, List.set_cons_zero, List.set_cons_succ]
                refine wpAnyS_take (i := 14) (v := .pointer (some ⟨g, o + i * 3, none⟩)) rfl (by kernel_rfl) (by kernel_rfl) (by kernel_rfl) (fun _ _ _ h => h) (fun _ _ => Iff.rfl) hc (by first | rfl | simp [Region.wanted]) (fun wx hx => ?_) S0 (fun hc S0 => ?_)
                · go_simp
                try simp only [List.getElem_toArray, List.getElem_cons_succ, List.getElem_cons_zero, Act.put, List.setIfInBounds_toArray, List.set_cons_zero, List.set_cons_succ]
                refine wpAnyS_take (i := 15) (v := .pointer (some ⟨g, o + i * 3 + 1, none⟩)) rfl (by kernel_rfl) (by kernel_rfl) (by kernel_rfl) (fun _ _ _ h => h) (fun _ _ => Iff.rfl) hc (by first | rfl | simp [Region.wanted]) (fun wx hx => ?_) S0 (fun hc S0 => ?_)
                · go_simp
                try simp only [List.getElem_toArray, List.getElem_cons_succ, List.getElem_cons_zero, Act.put, List.setIfInBounds_toArray, List.set_cons_zero, List.set_cons_succ]
                refine wpAnyS_take (i := 16) (v := .string (bs x.word)) rfl (by kernel_rfl) (by kernel_rfl) (by kernel_rfl) (fun _ _ _ h => h) (fun _ _ => Iff.rfl) hc (by first | rfl | simp [Region.wanted]) (fun wx hx => ?_) S0 (fun hc S0 => ?_)
                · have g := (hx.still.cell (p := ⟨g, o + i * 3 + 1, none⟩) hzg).trans e1
                  go_simp
                try simp only [List.getElem_toArray, List.getElem_cons_succ, List.getElem_cons_zero, Act.put, List.setIfInBounds_toArray, List.set_cons_zero, List.set_cons_succ]
                refine wpAnyS_take (i := 17) (v := .slice (some ⟨g, o, none⟩) l.length cap) rfl (by kernel_rfl) (by kernel_rfl) (by kernel_rfl) (fun _ _ _ h => h) (fun _ _ => Iff.rfl) hc (by first | rfl | simp [Region.wanted]) (fun wx hx => ?_) S0 (fun hc S0 => ?_)
                · go_simp
                try simp only [List.getElem_toArray, List.getElem_cons_succ, List.getElem_cons_zero, Act.put, List.setIfInBounds_toArray, List.set_cons_zero, List.set_cons_succ]
                refine wpAnyS_take (i := 18) (v := .int .i64 k) rfl (by kernel_rfl) (by kernel_rfl) (by kernel_rfl) (fun _ _ _ h => h) (fun _ _ => Iff.rfl) hc (by first | rfl | simp [Region.wanted]) (fun wx hx => ?_) S0 (fun hc S0 => ?_)
                · go_simp
                try simp only [List.getElem_toArray, List.getElem_cons_succ, List.getElem_cons_zero, Act.put, List.setIfInBounds_toArray, List.set_cons_zero, List.set_cons_succ]
                refine wpAnyS_take (i := 19) (v := .pointer (some ⟨g, o + k * 3, none⟩)) rfl (by kernel_rfl) (by kernel_rfl) (by kernel_rfl) (fun _ _ _ h => h) (fun _ _ => Iff.rfl) hc (by first | rfl | simp [Region.wanted]) (fun wx hx => ?_) S0 (fun hc S0 => ?_)
                · go_simp
                try simp only [List.getElem_toArray, List.getElem_cons_succ, List.getElem_cons_zero, Act.put, List.setIfInBounds_toArray, List.set_cons_zero, List.set_cons_succ]
                refine wpAnyS_take (i := 20) (v := .pointer (some ⟨g, o + k * 3 + 1, none⟩)) rfl (by kernel_rfl) (by kernel_rfl) (by kernel_rfl) (fun _ _ _ h => h) (fun _ _ => Iff.rfl) hc (by first | rfl | simp [Region.wanted]) (fun wx hx => ?_) S0 (fun hc S0 => ?_)
                · go_simp
                try simp only [List.getElem_toArray, List.getElem_cons_succ, List.getElem_cons_zero, Act.put, List.setIfInBounds_toArray, List.set_cons_zero, List.set_cons_succ]
                refine wpAnyS_take (i := 21) (v := .string (bs y.word)) rfl (by kernel_rfl) (by kernel_rfl) (by kernel_rfl) (fun _ _ _ h => h) (fun _ _ => Iff.rfl) hc (by first | rfl | simp [Region.wanted]) (fun wx hx => ?_) S0 (fun hc S0 => ?_)
                · have g := (hx.still.cell (p := ⟨g, o + k * 3 + 1, none⟩) hzg).trans d1
                  go_simp
                try simp only [List.getElem_toArray, List.getElem_cons_succ, List.getElem_cons_zero, Act.put, List.setIfInBounds_toArray, List.set_cons_zero, List.set_cons_succ]
                cases u with
                | true =>
                  refine wpAnyS_take (i := 22) (v := .bool true) rfl (by kernel_rfl) (by kernel_rfl) (by kernel_rfl) (fun _ _ _ h => h) (fun _ _ => Iff.rfl) hc (by first | rfl | simp [Region.wanted]) (fun wx hx => ?_) S0 (fun hc S0 => ?_)
                  · have hu := HU.out.symm
                    go_simp
                  try simp only [List.getElem_toArray, List.getElem_cons_succ, List.getElem_cons_zero, Act.put, List.setIfInBounds_toArray, List.set_cons_zero, List.set_cons_succ]
                  refine wpAnyS_one (i := 23) rfl (by kernel_rfl) (by rfl) hc (fun K' hK => ?_)
                  go_simp
                  refine hK.out _ _ (Below.refl _ _).drew (fun hc => ?_)
                  clear hK K'
                  have S0 : StillAt wr #[] wr.drew := (Below.refl _ _).drew
                  try simp only [List.getElem_toArray, List.getElem_cons_succ, List.getElem_cons_zero, Act.put, List.setIfInBounds_toArray, List.set_cons_zero, List.set_cons_succ]
                  refine wpAnyS_done (by kernel_rfl) ?_ _
                  clear hc S0
                  have HB4 := hid (HQ.out.drew)
                  have HE := hid (show Rw.allOk (Rw.dropOk most) Rw.Drop.key l [] = false from Rw.allOk_twice HX.out HY.out hki (by unfold Rw.Drop.key; rw [beq_iff_eq.1 HT.out.symm, str_same HU.out.symm]))
                  have HB5 := hid (Below.step HBX.out HB4.out)
                  go_wp2_with fail
                  go_ret
                  exact ⟨ret_bool HE.out.symm, HB5.out⟩
                | false =>
                  refine wpAnyS_take (i := 22) (v := .bool false) rfl (by kernel_rfl) (by kernel_rfl) (by kernel_rfl) (fun _ _ _ h => h) (fun _ _ => Iff.rfl) hc (by first | rfl | simp [Region.wanted]) (fun wx hx => ?_) S0 (fun hc S0 => ?_)
                  · have hu := HU.out.symm
                    go_simp
                  try simp only [List.getElem_toArray, List.getElem_cons_succ, List.getElem_cons_zero, Act.put, List.setIfInBounds_toArray, List.set_cons_zero, List.set_cons_succ]
                  refine wpAnyS_one (i := 23) rfl (by kernel_rfl) (by rfl) hc (fun K' hK => ?_)
                  go_simp
                  refine hK.out _ _ (Below.refl _ _).drew (fun hc => ?_)
                  clear hK K'
                  have S0 : StillAt wr #[] wr.drew := (Below.refl _ _).drew
                  try simp only [List.getElem_toArray, List.getElem_cons_succ, List.getElem_cons_zero, Act.put, List.setIfInBounds_toArray, List.set_cons_zero, List.set_cons_succ]
                  refine wpAnyS_done (by kernel_rfl) ?_ _
                  clear hc S0
                  have HB4 := hid (HQ.out.drew)
                  have HN2 := hid (Rw.keys_next HY.out HN.out (fun h => by have h2 : x.word = y.word := congrArg (fun z => z.2.1) h; rw [h2, beq_self_eq_true] at HU; exact absurd HU.out (by decide)))
                  go_wp2_with fail
                  go_roundw
                  case rel => exact ⟨k + 1, by omega, by go_num, HN2, HB4⟩
                  case measure => simp [RowKit.intOf]; omega
            · have hk2 : k = i := by omega
              subst hk2
              have HK2 := hid (Rw.allOk_next HX.out HK.out HOK2.out HN.out)
              have HB6 := hid (Below.step HBX.out HQ.out)
              go_wp2_with fail
              go_roundw
              case rel => exact ⟨k + 1, by omega, by go_num, HK2, HB6⟩
              case measure => simp [RowKit.intOf]; omega
    · have HE := hid (show Rw.allOk (Rw.dropOk most) Rw.Drop.key l [] = true by
        have := HK.out
        rwa [List.take_of_length_le (by omega)] at this)
      go_wp2_with fail
      go_ret
      exact ⟨ret_bool HE.out.symm, HR.out⟩

end Go.Proofs.YthibphklchalkaaGreatDoor

namespace Go.Proofs.YthibphklchalkaaGreatDoor
open Go.RowKit Go.Lib Go.Maps

set_option maxRecDepth 100000 in
set_option maxHeartbeats 8000000 in
theorem rvalid10_any (t : Rw.Table) (v : Value) (w : World) (ht : TableAt w t v) : Calls Tryz.prog 38 #[v] w (Gives (.bool (Rw.valid t)) w) := by
  obtain ⟨⟨vr, vd, ve, rfl, sr, sd, se⟩, fr, fd, fe, hl1, hl2, hl3⟩ := ht
  have HR := hid sr
  have HD := hid sd
  have HE := hid se
  obtain ⟨ar, cr, rfl, -⟩ := sr
  obtain ⟨ad, cd, rfl, -⟩ := sd
  obtain ⟨ae, ce, rfl, -⟩ := se
  have HFR := hid fr
  have HFD := hid fd
  have HFE := hid fe
  obtain ⟨nr, hnr⟩ : ∃ n, n = t.rules.length := ⟨_, rfl⟩
  obtain ⟨nd, hnd⟩ : ∃ n, n = t.drops.length := ⟨_, rfl⟩
  obtain ⟨ne, hne⟩ : ∃ n, n = t.ends.length := ⟨_, rfl⟩
  rw [← hnr, ← hnd, ← hne]
  rw [← hnr] at HR hl1
  rw [← hnd] at HD hl2
  rw [← hne] at HE hl3
  have HV := hid (show Rw.valid t = (decide (t.rules ≠ []) && decide (t.rules.length ≤ 80) && Rw.isCost t.drop && Rw.isCost t.order && Rw.isCost t.initial && Rw.allOk Rw.ruleOk Rw.Rule.key t.rules [] && (Rw.allOk (Rw.dropOk 12) Rw.Drop.key t.drops [] && decide (t.drops.length ≤ 40)) && (Rw.allOk (Rw.dropOk 4) Rw.Drop.key t.ends [] && decide (t.ends.length ≤ 40))) from rfl)
  rw [show decide (t.rules ≠ []) = decide (1 ≤ t.rules.length) from decide_eq_decide.2 (by rw [← List.length_pos_iff]; exact Iff.rfl), ← hnr, ← hnd, ← hne] at HV
  have HLL := hid (show t.rules.length ≤ 1000000 ∧ t.drops.length ≤ 1000000 ∧ t.ends.length ≤ 1000000 by omega)
  clear hnr hnd hne fr fd fe
  obtain ⟨w1, hw1⟩ : ∃ w1, w1 = w.alloc (.cells #[.slice ar nr cr, .slice ad nd cd, .slice ae ne ce, .int .i64 t.drop, .int .i64 t.order, .int .i64 t.initial] 25) := ⟨_, rfl⟩
  have HB1 := hid (show Below w.heap.size w w1 by rw [hw1]; exact (Below.refl _ w).alloc (Nat.le_refl _) _)
  have hd5 : w1.heap[w.heap.size]? = some (.cells #[.slice ar nr cr, .slice ad nd cd, .slice ae ne ce, .int .i64 t.drop, .int .i64 t.order, .int .i64 t.initial] 25 (0, 0)) := by rw [hw1]; exact heap_alloc_new w _
  have HC : Hid (∀ W, Below w1.heap.size w1 W → W.cell? ⟨w.heap.size, 0, none⟩ = some (.slice ar nr cr) ∧ W.cell? ⟨w.heap.size, 1, none⟩ = some (.slice ad nd cd) ∧ W.cell? ⟨w.heap.size, 2, none⟩ = some (.slice ae ne ce) ∧ W.cell? ⟨w.heap.size, 3, none⟩ = some (.int .i64 t.drop) ∧ W.cell? ⟨w.heap.size, 4, none⟩ = some (.int .i64 t.order) ∧ W.cell? ⟨w.heap.size, 5, none⟩ = some (.int .i64 t.initial)) := fun W hW => by
    have hd := (hW.block _ (Array.getElem?_eq_some_iff.1 hd5).1).trans hd5
    exact ⟨by simp [World.cell?, hd], by simp [World.cell?, hd], by simp [World.cell?, hd], by simp [World.cell?, hd], by simp [World.cell?, hd], by simp [World.cell?, hd]⟩
  have HCO : Hid (∀ n W, Calls Tryz.prog 56 #[.int .i64 n] W (Gives (.bool (Rw.isCost n)) W)) := fun n W => rcost_any n W
  have HCR : Hid (∀ W, Below w1.heap.size w1 W → Calls Tryz.prog 57 #[.slice ar nr cr] W (Gives (.bool (Rw.allOk Rw.ruleOk Rw.Rule.key t.rules [])) W)) := fun W hW => rrules_any t.rules _ W ((HR.out.below HB1.out).below hW) HLL.out.1 HFR.out
  have HCD : Hid (∀ W, Below w1.heap.size w1 W → Calls Tryz.prog 58 #[.slice ad nd cd, .int .i64 12] W (Gives (.bool (Rw.allOk (Rw.dropOk 12) Rw.Drop.key t.drops [])) W)) := fun W hW => rdrops_any t.drops _ 12 W ((HD.out.below HB1.out).below hW) HLL.out.2.1 HFD.out
  have HCE : Hid (∀ W, Below w1.heap.size w1 W → Calls Tryz.prog 58 #[.slice ae ne ce, .int .i64 4] W (Gives (.bool (Rw.allOk (Rw.dropOk 4) Rw.Drop.key t.ends [])) W)) := fun W hW => rdrops_any t.ends _ 4 W ((HE.out.below HB1.out).below hW) HLL.out.2.2 HFE.out
  obtain ⟨c0, c1, c2, c3, c4, c5⟩ := HC.out w1 (Below.refl _ _)
  clear hd5 hl1 hl2 hl3
  by_cases q1 : 1 ≤ nr
  rotate_left
  · have HZ := hid (show Rw.valid t = false by rw [HV.out, decide_eq_false q1]; simp)
    have x0 : decide ((nr : Int) < 1) = true := decide_eq_true (by omega)
    clear q1
    go_enter Tryz.func38, Tryz.ntmps38
    go_wp2_with fail
    go_ret
    exact ⟨ret_bool HZ.out.symm, by rw [← hw1]; exact HB1.out⟩
  by_cases q2 : nr ≤ 80
  rotate_left
  · have HZ := hid (show Rw.valid t = false by rw [HV.out, decide_eq_false q2]; simp)
    have x0 : decide ((nr : Int) < 1) = false := decide_eq_false (by omega)
    have x1 : decide ((80 : Int) < (nr : Int)) = true := decide_eq_true (by omega)
    clear q1 q2
    go_enter Tryz.func38, Tryz.ntmps38
    go_wp2_with fail
    go_ret
    exact ⟨ret_bool HZ.out.symm, by rw [← hw1]; exact HB1.out⟩
  by_cases q3 : nd ≤ 40
  rotate_left
  · have HZ := hid (show Rw.valid t = false by rw [HV.out, decide_eq_false q3]; simp)
    have x0 : decide ((nr : Int) < 1) = false := decide_eq_false (by omega)
    have x1 : decide ((80 : Int) < (nr : Int)) = false := decide_eq_false (by omega)
    have x2 : decide ((40 : Int) < (nd : Int)) = true := decide_eq_true (by omega)
    clear q1 q2 q3
    go_enter Tryz.func38, Tryz.ntmps38
    go_wp2_with fail
    go_ret
    exact ⟨ret_bool HZ.out.symm, by rw [← hw1]; exact HB1.out⟩
  by_cases q4 : ne ≤ 40
  rotate_left
  · have HZ := hid (show Rw.valid t = false by rw [HV.out, decide_eq_false q4]; simp)
    have x0 : decide ((nr : Int) < 1) = false := decide_eq_false (by omega)
    have x1 : decide ((80 : Int) < (nr : Int)) = false := decide_eq_false (by omega)
    have x2 : decide ((40 : Int) < (nd : Int)) = false := decide_eq_false (by omega)
    have x3 : decide ((40 : Int) < (ne : Int)) = true := decide_eq_true (by omega)
    clear q1 q2 q3 q4
    go_enter Tryz.func38, Tryz.ntmps38
    go_wp2_with fail
    go_ret
    exact ⟨ret_bool HZ.out.symm, by rw [← hw1]; exact HB1.out⟩
  have x0 : decide ((nr : Int) < 1) = false := decide_eq_false (by omega)
  have x1 : decide ((80 : Int) < (nr : Int)) = false := decide_eq_false (by omega)
  have x2 : decide ((40 : Int) < (nd : Int)) = false := decide_eq_false (by omega)
  have x3 : decide ((40 : Int) < (ne : Int)) = false := decide_eq_false (by omega)
  rw [decide_eq_true q1, decide_eq_true q2, decide_eq_true q3, decide_eq_true q4] at HV
  clear q1 q2 q3 q4
  have HK3 : Hid (∀ W, Calls Tryz.prog 56 #[.int .i64 t.drop] W (Gives (.bool (Rw.isCost t.drop)) W)) := fun W => HCO.out _ W
  obtain ⟨k3, hk3⟩ : ∃ b, b = Rw.isCost t.drop := ⟨_, rfl⟩
  rw [← hk3] at HV HK3
  clear hk3
  have HK4 : Hid (∀ W, Calls Tryz.prog 56 #[.int .i64 t.order] W (Gives (.bool (Rw.isCost t.order)) W)) := fun W => HCO.out _ W
  obtain ⟨k4, hk4⟩ : ∃ b, b = Rw.isCost t.order := ⟨_, rfl⟩
  rw [← hk4] at HV HK4
  clear hk4
  have HK5 : Hid (∀ W, Calls Tryz.prog 56 #[.int .i64 t.initial] W (Gives (.bool (Rw.isCost t.initial)) W)) := fun W => HCO.out _ W
  obtain ⟨k5, hk5⟩ : ∃ b, b = Rw.isCost t.initial := ⟨_, rfl⟩
  rw [← hk5] at HV HK5
  clear hk5
  obtain ⟨k6, hk6⟩ : ∃ b, b = Rw.allOk Rw.ruleOk Rw.Rule.key t.rules [] := ⟨_, rfl⟩
  rw [← hk6] at HV HCR
  clear hk6
  obtain ⟨k7, hk7⟩ : ∃ b, b = Rw.allOk (Rw.dropOk 12) Rw.Drop.key t.drops [] := ⟨_, rfl⟩
  rw [← hk7] at HV HCD
  clear hk7
  obtain ⟨k8, hk8⟩ : ∃ b, b = Rw.allOk (Rw.dropOk 4) Rw.Drop.key t.ends [] := ⟨_, rfl⟩
  rw [← hk8] at HV HCE
  clear hk8
  go_enter Tryz.func38, Tryz.ntmps38
  go_wp2_with fail
  rw [← hw1]
  clear hw1
  refine (HK3.out _).mono ?_
  rintro e v0 ⟨rfl, hb⟩
  have HV0 := hid (show Below w1.heap.size w1 v0 from hb)
  have HT0 := hid (Below.step HB1.out HV0.out)
  clear hb c0 c1 c2 c3 c4 c5
  cases k3 with
  | false =>
    have HZ := hid (show Rw.valid t = false by rw [HV.out]; simp)
    go_wp2_with fail
    go_ret
    exact ⟨ret_bool HZ.out.symm, HT0.out⟩
  | true =>
    obtain ⟨c0, c1, c2, c3, c4, c5⟩ := HC.out v0 HV0.out
    go_wp2_with fail
    refine (HK4.out _).mono ?_
    rintro e v1 ⟨rfl, hb⟩
    have HV1 := hid (show Below w1.heap.size w1 v1 from Below.step HV0.out hb)
    have HT1 := hid (Below.step HB1.out HV1.out)
    clear hb c0 c1 c2 c3 c4 c5
    cases k4 with
    | false =>
      have HZ := hid (show Rw.valid t = false by rw [HV.out]; simp)
      go_wp2_with fail
      go_ret
      exact ⟨ret_bool HZ.out.symm, HT1.out⟩
    | true =>
      obtain ⟨c0, c1, c2, c3, c4, c5⟩ := HC.out v1 HV1.out
      go_wp2_with fail
      refine (HK5.out _).mono ?_
      rintro e v2 ⟨rfl, hb⟩
      have HV2 := hid (show Below w1.heap.size w1 v2 from Below.step HV1.out hb)
      have HT2 := hid (Below.step HB1.out HV2.out)
      clear hb c0 c1 c2 c3 c4 c5
      cases k5 with
      | false =>
        have HZ := hid (show Rw.valid t = false by rw [HV.out]; simp)
        go_wp2_with fail
        go_ret
        exact ⟨ret_bool HZ.out.symm, HT2.out⟩
      | true =>
        obtain ⟨c0, c1, c2, c3, c4, c5⟩ := HC.out v2 HV2.out
        go_wp2_with fail
        refine (HCR.out _ HV2.out).mono ?_
        rintro e v3 ⟨rfl, hb⟩
        have HV3 := hid (show Below w1.heap.size w1 v3 from Below.step HV2.out hb)
        have HT3 := hid (Below.step HB1.out HV3.out)
        clear hb c0 c1 c2 c3 c4 c5
        cases k6 with
        | false =>
          have HZ := hid (show Rw.valid t = false by rw [HV.out]; simp)
          go_wp2_with fail
          go_ret
          exact ⟨ret_bool HZ.out.symm, HT3.out⟩
        | true =>
          obtain ⟨c0, c1, c2, c3, c4, c5⟩ := HC.out v3 HV3.out
          go_wp2_with fail
          refine (HCD.out _ HV3.out).mono ?_
          rintro e v4 ⟨rfl, hb⟩
          have HV4 := hid (show Below w1.heap.size w1 v4 from Below.step HV3.out hb)
          have HT4 := hid (Below.step HB1.out HV4.out)
          clear hb c0 c1 c2 c3 c4 c5
          cases k7 with
          | false =>
            have HZ := hid (show Rw.valid t = false by rw [HV.out]; simp)
            go_wp2_with fail
            go_ret
            exact ⟨ret_bool HZ.out.symm, HT4.out⟩
          | true =>
            obtain ⟨c0, c1, c2, c3, c4, c5⟩ := HC.out v4 HV4.out
            go_wp2_with fail
            refine (HCE.out _ HV4.out).mono ?_
            rintro e v5 ⟨rfl, hb⟩
            have HV5 := hid (show Below w1.heap.size w1 v5 from Below.step HV4.out hb)
            have HT5 := hid (Below.step HB1.out HV5.out)
            clear hb c0 c1 c2 c3 c4 c5
            cases k8 with
            | false =>
              have HZ := hid (show Rw.valid t = false by rw [HV.out]; simp)
              go_wp2_with fail
              go_ret
              exact ⟨ret_bool HZ.out.symm, HT5.out⟩
            | true =>
              have HZ := hid (show Rw.valid t = true by rw [HV.out]; rfl)
              go_wp2_with fail
              go_ret
              exact ⟨ret_bool HZ.out.symm, HT5.out⟩

end Go.Proofs.YthibphklchalkaaGreatDoor

namespace Al
/-- do the letters of a rule's beginning stand at a place, and how many are they? -/
def fitN (k : Int) (fr : List UInt8) (L : List (List UInt8)) (i : Nat) : Option Nat :=
  match Sc.lets k fr with
  | none => none
  | some f => if decide (i + f.length ≤ L.length) && decide ((L.drop i).take f.length = f) then some f.length else none
theorem fit_more {L f : List (List UInt8)} {i k : Nat} {x y : List UInt8} (h : (L.drop i).take k = f.take k) (hx : L[i + k]? = some x) (hy : f[k]? = some y) (hxy : x = y) : (L.drop i).take (k + 1) = f.take (k + 1) := by
  rw [List.take_add_one, List.take_add_one, h, List.getElem?_drop, hx, hy, hxy]
theorem fit_not {L f : List (List UInt8)} {i k : Nat} {x y : List UInt8} (hx : L[i + k]? = some x) (hy : f[k]? = some y) (hxy : ¬ x = y) : ¬ (L.drop i).take f.length = f := by
  intro h
  have hk := (List.getElem?_eq_some_iff.1 hy).1
  rw [← h, List.getElem?_take_of_lt hk, List.getElem?_drop, hx] at hy
  exact hxy (Option.some.inj hy)
theorem prefix_eq {a s : List UInt8} (_h : a.length ≤ s.length) : a.isPrefixOf s = (decide (s.take a.length = a)) := by
  rw [Bool.eq_iff_iff, List.isPrefixOf_iff_prefix, List.prefix_iff_eq_take, decide_eq_true_eq]
  exact ⟨fun h => h.symm, fun h => h.symm⟩
theorem prefix_long {a s : List UInt8} (h : ¬ a.length ≤ s.length) : a.isPrefixOf s = false := by
  rw [Bool.eq_false_iff]
  intro hp
  exact h (List.isPrefixOf_iff_prefix.1 hp).length_le
end Al
namespace Go.Proofs.YthibphklchalkaaGreatDoor
open Go.RowKit Go.Lib Go.Maps

/-- what the letters of the folded word are -/
def RL11P (k : Int) (l : List UInt8) (w : World) (e : Ending) (w' : World) : Prop :=
  match Sc.lets k l with
  | none => e = .returned (.tuple #[.slice none 0 0, .bool false]) ∧ Below w.heap.size w w'
  | some ls => ∃ v, e = .returned (.tuple #[v, .bool true]) ∧ w'.ownsRow w.heap.size 9 1 v ls.length ((ls.map Sc.fold).flatMap strC) ∧ Below w.heap.size w w'

set_option maxRecDepth 100000 in
theorem rletters11_any (k : Int) (l : List UInt8) (w : World) (hl : l.length ≤ 1000000) : Calls Tryz.prog 22 #[.int .i64 k, .string (bs l)] w (RL11P k l w) := by
  have HF := hid (rfold_any k l w hl)
  go_enter Tryz.func22, Tryz.ntmps22
  go_wp2_with fail
  refine (HF.out).mono ?_
  rintro e w1 h1
  unfold FoldPost at h1
  cases hs : Sc.lets k l with
  | none =>
    rw [hs] at h1
    obtain ⟨rfl, hb⟩ := h1
    have HB := hid hb
    have HS := hid hs
    clear hb hs
    go_wp2_with fail
    go_ret2
    unfold RL11P; rw [HS.out]; exact ⟨rfl, HB.out⟩
  | some ls =>
    rw [hs] at h1
    obtain ⟨rfl, hb⟩ := h1
    have HB := hid hb
    have HL := hid (rletters_any k (Sc.fold l) w1 (by rw [Sc.fold_length]; omega))
    have HS2 := hid (Sc.lets_fold hs)
    have HS := hid hs
    clear hb hs
    go_wp2_with fail
    refine (HL.out).mono ?_
    rintro e w2 h2
    unfold RLeP at h2
    rw [HS2.out] at h2
    obtain ⟨v, rfl, ho, hb⟩ := h2
    have HO := hid ho
    have HBT := hid (Below.step HB.out hb)
    have hz := HB.out.size
    clear ho hb
    go_wp2_with fail
    go_ret2
    unfold RL11P; rw [HS.out]
    refine ⟨_, rfl, ?_, HBT.out⟩
    have := ownsRow_base HO.out hz
    rwa [List.length_map] at this

set_option maxRecDepth 100000 in
theorem rbegins_any (s a : List UInt8) (w : World) (_hs : s.length ≤ 1000000) (_ha : a.length ≤ 1000000) : Calls Tryz.prog 43 #[.string (bs s), .string (bs a)] w (Gives (.bool (a.isPrefixOf s)) w) := by
  have hbs := bs_len s
  have hba := bs_len a
  by_cases hle : a.length ≤ s.length
  · have g1 : decide (a.length ≤ s.length) = true := decide_eq_true hle
    have x2 : (bs s).extract 0 a.length = bs (s.take a.length) := by
      rw [extract_bs, List.drop_zero, Nat.sub_zero]; rfl
    have hle' : (a.length : Int) ≤ (s.length : Int) := by omega
    by_cases he : s.take a.length = a
    · have HE := hid (show a.isPrefixOf s = true by rw [Al.prefix_eq hle, decide_eq_true he])
      have g2 : ((bs (s.take a.length)).toList == (bs a).toList) = true := by rw [he]; exact beq_self_eq_true _
      clear hle he
      go_enter Tryz.func43, Tryz.ntmps43
      go_wp2_with fail
      go_ret
      exact ⟨ret_bool HE.out.symm, Below.refl _ _⟩
    · have HE := hid (show a.isPrefixOf s = false by rw [Al.prefix_eq hle, decide_eq_false he])
      have g2 : ((bs (s.take a.length)).toList == (bs a).toList) = false := str_ne he
      clear hle he
      go_enter Tryz.func43, Tryz.ntmps43
      go_wp2_with fail
      go_ret
      exact ⟨ret_bool HE.out.symm, Below.refl _ _⟩
  · have g1 : decide (a.length ≤ s.length) = false := decide_eq_false hle
    have HE := hid (Al.prefix_long hle)
    clear hle
    go_enter Tryz.func43, Tryz.ntmps43
    go_wp2_with fail
    go_ret
    exact ⟨ret_bool HE.out.symm, Below.refl _ _⟩

/-- what Fits returns -/
def fitV : Option Nat → Value
  | none => .tuple #[.int .i64 0, .bool false]
  | some n => .tuple #[.int .i64 n, .bool true]

theorem strC_one : ∀ x, (strC x).length = 1 := fun _ => rfl

set_option maxRecDepth 100000 in
set_option maxHeartbeats 4000000 in
theorem rfits_any (k : Int) (fr : List UInt8) (L : List (List UInt8)) (v : Value) (i : Nat) (w : World) (hv : SlOf w v 1 strC L) (hf : fr.length ≤ 1000000) (hL : L.length ≤ 1000000) (hi : i ≤ 1000000) : Calls Tryz.prog 42 #[.int .i64 k, .string (bs fr), v, .int .i64 i] w (Gives (fitV (Al.fitN k fr L i)) w) := by
  have HV := hid hv
  obtain ⟨va, vc, rfl, -⟩ := hv
  have HF := hid (rletters_any k fr w (by omega))
  go_enter Tryz.func42, Tryz.ntmps42
  go_wp2_with fail
  refine (HF.out).mono ?_
  rintro e w1 h1
  unfold RLeP at h1
  cases hs : Sc.lets k fr with
  | none =>
    rw [hs] at h1
    obtain ⟨rfl, hb⟩ := h1
    have HB := hid hb
    have HE := hid (show Al.fitN k fr L i = none by unfold Al.fitN; rw [hs])
    clear hb hs
    go_wp2_with fail
    go_ret2
    exact ⟨by rw [HE.out]; rfl, HB.out⟩
  | some f =>
    rw [hs] at h1
    obtain ⟨v2, rfl, ho, hb⟩ := h1
    have h12 := (Sc.lets_len hs).2
    have HB := hid hb
    have HF2 := hid (SlOf.own ho (fun x _ => strC_one x))
    obtain ⟨oa, oc, rfl⟩ := ownsRow_slice ho
    have HE := hid (show Al.fitN k fr L i = if decide (i + f.length ≤ L.length) && decide ((L.drop i).take f.length = f) then some f.length else none by unfold Al.fitN; rw [hs])
    clear hb hs ho
    by_cases hle : i + f.length ≤ L.length
    · have hle' : decide ((L.length : Int) < (i : Int) + (f.length : Int)) = false := decide_eq_false (by omega)
      go_wp2_with fail
      go_loopw [12] (fun iv wr => ∃ m : Nat, m ≤ f.length ∧ iv = .int .i64 m ∧ Hid ((L.drop i).take m = f.take m) ∧ Hid (Below w1.heap.size w1 wr)) (fun iv _ => f.length - (RowKit.intOf iv).toNat)
      case atStart => exact ⟨0, Nat.zero_le _, rfl, rfl, Below.refl _ _⟩
      case round =>
        obtain ⟨m, hm, rfl, HM, HR⟩ := hrel
        by_cases hlt : m < f.length
        · obtain ⟨x, hx⟩ : ∃ x, L[i + m]? = some x := ⟨_, List.getElem?_eq_getElem (by omega)⟩
          obtain ⟨y, hy⟩ : ∃ y, f[m]? = some y := ⟨_, List.getElem?_eq_getElem hlt⟩
          obtain ⟨g, o, rfl, hr⟩ : ∃ g o, va = some ⟨g, o, none⟩ ∧ RowOf wr g o 1 strC L := by
            obtain ⟨a', cap', ev, -, -, hr⟩ := (HV.out.below HB.out).below HR.out
            cases ev
            exact hr (by omega)
          obtain ⟨g2, o2, rfl, hr2⟩ : ∃ g o, oa = some ⟨g, o, none⟩ ∧ RowOf wr g o 1 strC f := by
            obtain ⟨a', cap', ev, -, -, hr⟩ := HF2.out.below HR.out
            cases ev
            exact hr (by omega)
          have e0 := row_cell hr hx 0 rfl
          have d0 := row_cell hr2 hy 0 rfl
          have hzg := hr.1
          have hz2 := hr2.1
          rw [Nat.mul_one, Nat.add_zero] at e0 d0
          have hm0 : (0 : Int) ≤ (m : Int) := by omega
          have hm1 : (m : Int) < (f.length : Int) := by omega
          have hi0 : (0 : Int) ≤ (i : Int) + (m : Int) := by omega
          have hi1 : (i : Int) + (m : Int) < (L.length : Int) := by omega
          have hin : ((i : Int) + (m : Int)).toNat = i + m := by omega
          have hwr : IntKind.i64.wrap ((i : Int) + (m : Int)) = (i : Int) + (m : Int) := IntWalk.i64_in _ (by omega)
          obtain ⟨t, ht⟩ : ∃ t, t = ((bs x).toList == (bs y).toList) := ⟨_, rfl⟩
          have HT := hid ht
          have HX := hid hx
          have HY := hid hy
          clear ht hx hy hr hr2
          go_upto_region 7 with (fail)
          refine wp_heldS (S := StillAt wr) (by kernel_rfl) ?_
          simp only [List.size_toArray, List.length_cons, List.length_nil, Nat.reduceAdd]
          intro hc
          have S0 : StillAt wr (Array.replicate 11 false) wr.drew := (Below.refl _ _).drew
          refine wpAnyS_take (i := 0) (v := .slice (some ⟨g, o, none⟩) L.length vc) rfl (by kernel_rfl) (by kernel_rfl) (by kernel_rfl) (fun _ _ _ h => h) (fun _ _ => Iff.rfl) hc (by first | rfl | simp [Region.wanted]) (fun wx hx => ?_) S0 (fun hc S0 => ?_)
          · go_simp
          try simp only [List.getElem_toArray, List.getElem_cons_zero, Act.put, List.setIfInBounds_toArray, List.set_cons_zero, List.set_cons_succ]
          refine wpAnyS_take (i := 1) (v := .int .i64 i) rfl (by kernel_rfl) (by kernel_rfl) (by kernel_rfl) (fun _ _ _ h => h) (fun _ _ => Iff.rfl) hc (by first | rfl | simp [Region.wanted]) (fun wx hx => ?_) S0 (fun hc S0 => ?_)
          · go_simp
          try simp only [List.getElem_toArray, List.getElem_cons_succ, List.getElem_cons_zero, Act.put, List.setIfInBounds_toArray, List.set_cons_zero, List.set_cons_succ]
          refine wpAnyS_take (i := 2) (v := .int .i64 m) rfl (by kernel_rfl) (by kernel_rfl) (by kernel_rfl) (fun _ _ _ h => h) (fun _ _ => Iff.rfl) hc (by first | rfl | simp [Region.wanted]) (fun wx hx => ?_) S0 (fun hc S0 => ?_)
          · go_simp
          try simp only [List.getElem_toArray, List.getElem_cons_succ, List.getElem_cons_zero, Act.put, List.setIfInBounds_toArray, List.set_cons_zero, List.set_cons_succ]
          refine wpAnyS_take (i := 3) (v := .int .i64 (i + m)) rfl (by kernel_rfl) (by kernel_rfl) (by kernel_rfl) (fun _ _ _ h => h) (fun _ _ => Iff.rfl) hc (by first | rfl | simp [Region.wanted]) (fun wx hx => ?_) S0 (fun hc S0 => ?_)
          · go_simp
          try simp only [List.getElem_toArray, List.getElem_cons_succ, List.getElem_cons_zero, Act.put, List.setIfInBounds_toArray, List.set_cons_zero, List.set_cons_succ]
          refine wpAnyS_take (i := 4) (v := .pointer (some ⟨g, o + (i + m), none⟩)) rfl (by kernel_rfl) (by kernel_rfl) (by kernel_rfl) (fun _ _ _ h => h) (fun _ _ => Iff.rfl) hc (by first | rfl | simp [Region.wanted]) (fun wx hx => ?_) S0 (fun hc S0 => ?_)
          · go_simp
          try simp only [List.getElem_toArray, List.getElem_cons_succ, List.getElem_cons_zero, Act.put, List.setIfInBounds_toArray, List.set_cons_zero, List.set_cons_succ]
          refine wpAnyS_take (i := 5) (v := .string (bs x)) rfl (by kernel_rfl) (by kernel_rfl) (by kernel_rfl) (fun _ _ _ h => h) (fun _ _ => Iff.rfl) hc (by first | rfl | simp [Region.wanted]) (fun wx hx => ?_) S0 (fun hc S0 => ?_)
          · have q := (hx.still.cell (p := ⟨g, o + (i + m), none⟩) hzg).trans e0
            go_simp
          try simp only [List.getElem_toArray, List.getElem_cons_succ, List.getElem_cons_zero, Act.put, List.setIfInBounds_toArray, List.set_cons_zero, List.set_cons_succ]
          refine wpAnyS_take (i := 6) (v := .slice (some ⟨g2, o2, none⟩) f.length oc) rfl (by kernel_rfl) (by kernel_rfl) (by kernel_rfl) (fun _ _ _ h => h) (fun _ _ => Iff.rfl) hc (by first | rfl | simp [Region.wanted]) (fun wx hx => ?_) S0 (fun hc S0 => ?_)
          · go_simp
          try simp only [List.getElem_toArray, List.getElem_cons_succ, List.getElem_cons_zero, Act.put, List.setIfInBounds_toArray, List.set_cons_zero, List.set_cons_succ]
          refine wpAnyS_take (i := 7) (v := .int .i64 m) rfl (by kernel_rfl) (by kernel_rfl) (by kernel_rfl) (fun _ _ _ h => h) (fun _ _ => Iff.rfl) hc (by first | rfl | simp [Region.wanted]) (fun wx hx => ?_) S0 (fun hc S0 => ?_)
          · go_simp
          try simp only [List.getElem_toArray, List.getElem_cons_succ, List.getElem_cons_zero, Act.put, List.setIfInBounds_toArray, List.set_cons_zero, List.set_cons_succ]
          refine wpAnyS_take (i := 8) (v := .pointer (some ⟨g2, o2 + m, none⟩)) rfl (by kernel_rfl) (by kernel_rfl) (by kernel_rfl) (fun _ _ _ h => h) (fun _ _ => Iff.rfl) hc (by first | rfl | simp [Region.wanted]) (fun wx hx => ?_) S0 (fun hc S0 => ?_)
          · go_simp
          try simp only [List.getElem_toArray, List.getElem_cons_succ, List.getElem_cons_zero, Act.put, List.setIfInBounds_toArray, List.set_cons_zero, List.set_cons_succ]
          refine wpAnyS_take (i := 9) (v := .string (bs y)) rfl (by kernel_rfl) (by kernel_rfl) (by kernel_rfl) (fun _ _ _ h => h) (fun _ _ => Iff.rfl) hc (by first | rfl | simp [Region.wanted]) (fun wx hx => ?_) S0 (fun hc S0 => ?_)
          · have q := (hx.still.cell (p := ⟨g2, o2 + m, none⟩) hz2).trans d0
            go_simp
          try simp only [List.getElem_toArray, List.getElem_cons_succ, List.getElem_cons_zero, Act.put, List.setIfInBounds_toArray, List.set_cons_zero, List.set_cons_succ]
          have HBW := hid (HR.out.drew)
          cases t with
          | true =>
            have HM2 := hid (Al.fit_more HM.out HX.out HY.out (str_same HT.out.symm))
            refine wpAnyS_take (i := 10) (v := .bool false) rfl (by kernel_rfl) (by kernel_rfl) (by kernel_rfl) (fun _ _ _ h => h) (fun _ _ => Iff.rfl) hc (by first | rfl | simp [Region.wanted]) (fun wx hx => ?_) S0 (fun hc S0 => ?_)
            · have ht := HT.out.symm
              go_simp
            try simp only [List.getElem_toArray, List.getElem_cons_succ, List.getElem_cons_zero, Act.put, List.setIfInBounds_toArray, List.set_cons_zero, List.set_cons_succ]
            refine wpAnyS_done (by kernel_rfl) ?_ _
            clear hc S0
            go_wp2_with fail
            go_roundw
            case rel => exact ⟨m + 1, by omega, by go_num, HM2, HBW⟩
            case measure => simp [RowKit.intOf]; omega
          | false =>
            have hne : ¬ x = y := fun h => by rw [h, beq_self_eq_true] at HT; exact absurd HT.out (by decide)
            have HE2 := hid (show Al.fitN k fr L i = none by
              rw [HE.out, decide_eq_false (Al.fit_not HX.out HY.out hne), Bool.and_false]; rfl)
            have HBX := hid (Below.step HB.out HBW.out)
            clear hne
            refine wpAnyS_take (i := 10) (v := .bool true) rfl (by kernel_rfl) (by kernel_rfl) (by kernel_rfl) (fun _ _ _ h => h) (fun _ _ => Iff.rfl) hc (by first | rfl | simp [Region.wanted]) (fun wx hx => ?_) S0 (fun hc S0 => ?_)
            · have ht := HT.out.symm
              go_simp
            try simp only [List.getElem_toArray, List.getElem_cons_succ, List.getElem_cons_zero, Act.put, List.setIfInBounds_toArray, List.set_cons_zero, List.set_cons_succ]
            refine wpAnyS_done (by kernel_rfl) ?_ _
            clear hc S0
            go_wp2_with fail
            go_ret2
            exact ⟨by rw [HE2.out]; rfl, HBX.out⟩
        · have hme : m = f.length := by omega
          subst hme
          have HE2 := hid (show Al.fitN k fr L i = some f.length by
            have := HM.out
            rw [List.take_length] at this
            rw [HE.out, decide_eq_true hle, decide_eq_true this]; rfl)
          have HBX := hid (Below.step HB.out HR.out)
          go_wp2_with fail
          go_ret2
          exact ⟨by rw [HE2.out]; rfl, HBX.out⟩
    · have hle' : decide ((L.length : Int) < (i : Int) + (f.length : Int)) = true := decide_eq_true (by omega)
      have HE2 := hid (show Al.fitN k fr L i = none by rw [HE.out, decide_eq_false hle]; rfl)
      clear hle
      go_wp2_with fail
      go_ret2
      exact ⟨by rw [HE2.out]; rfl, HB.out⟩

end Go.Proofs.YthibphklchalkaaGreatDoor
