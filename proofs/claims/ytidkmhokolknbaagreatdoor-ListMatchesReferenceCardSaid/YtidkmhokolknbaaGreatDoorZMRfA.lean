/-
  Several texts in one: ZLiR1, ZLiR2, ZRf1, ZRf2, ZRf3, ZRf4, ZRf5, ZRf6. Conditions: as each law says.
-/
import Derived.Test.YtidkmhokolknbaaGreatDoorZMLiA
import Derived.Test.YtidkmhokolknbaaGreatDoorZMLiB
import Derived.Test.YtidkmhokolknbaaGreatDoorZMLiS
import Derived.Test.YtidkmhokolknbaaGreatDoorZMLiP
import Derived.Test.YtidkmhokolknbaaGreatDoorZLawAid
import Derived.Test.YtidkmhokolknbaaGreatDoorZLiQ
namespace Go.Proofs.YtidkmhokolknbaaGreatDoor
open Go.RowKit Go.Lib Go.Maps

set_option maxRecDepth 100000 in
theorem rIs_any (t : Int) (w : World) : Calls Tryz.prog 61 #[.int .i64 t] w (Same (.bool (Li.inst t)) w) := by
  by_cases h0 : 0 ≤ t
  · have HE := hid (show Li.inst t = decide (t ≤ 144001439) by unfold Li.inst; rw [decide_eq_true h0]; rfl)
    go_enter Tryz.func61, Tryz.ntmps61
    go_wp2
    go_ret
    exact ⟨by rw [HE.out]; rfl, rfl⟩
  · have HE := hid (show Li.inst t = false by unfold Li.inst; rw [decide_eq_false h0]; rfl)
    go_enter Tryz.func61, Tryz.ntmps61
    go_wp2
    go_ret
    exact ⟨by rw [HE.out]; rfl, rfl⟩

end Go.Proofs.YtidkmhokolknbaaGreatDoor

namespace Go.Proofs.YtidkmhokolknbaaGreatDoor
open Go.RowKit Go.Lib Go.Maps

def findI (l : List Li.Ls) (a : List UInt8) : Int := match Li.find l a with | some k => (k : Int) | none => -1
theorem find_here {l : List Li.Ls} {k : Nat} {x : Li.Ls} (hx : l[k]? = some x) (h : Li.find (l.take k) x.en.id = none) : Li.find l x.en.id = some k := by
  have hk := (List.getElem?_eq_some_iff.1 hx).1
  have key : ∀ (a b : List Li.Ls) (i : List UInt8) (j : Nat), Li.find a i = some j → Li.find (a ++ b) i = some j := by
    intro a
    induction a with
    | nil => intro b i j h; cases h
    | cons y a ih =>
      intro b i j h
      rw [List.cons_append]
      unfold Li.find at h ⊢
      split
      · rename_i hy; rw [if_pos hy] at h; exact h
      · rename_i hy
        rw [if_neg hy] at h
        cases hf : Li.find a i with
        | none => rw [hf] at h; cases h
        | some m => rw [hf] at h; rw [ih b i m hf]; exact h
  rw [← List.take_append_drop (k + 1) l]
  refine key _ _ _ _ ?_
  rw [take_snoc hx, find_append, h]
  simp only [if_pos]
  rw [List.length_take, Nat.min_eq_left (by omega)]

set_option maxRecDepth 100000 in
set_option maxHeartbeats 4000000 in
theorem rFind_any (ps : List (Li.Ls × Value)) (v : Value) (a : List UInt8) (w : World) (h : SlOf w v 5 lsC ps) : Calls Tryz.prog 41 #[v, .string (bs a)] w (Same (.int .i64 (findI (ps.map Prod.fst) a)) w) := by
  have HS := hid h
  obtain ⟨va, cap, rfl, k1, k2, -⟩ := h
  have hl1 : ps.length ≤ 9223372036854775807 := by unfold maxLen at k2; omega
  clear k1 k2
  go_enter Tryz.func41, Tryz.ntmps41
  go_wp2_with fail
  go_loop [5] (fun iv => ∃ k : Nat, k ≤ ps.length ∧ iv = .int .i64 k ∧ Hid (Li.find ((ps.map Prod.fst).take k) a = none)) (fun iv => ps.length - (RowKit.intOf iv).toNat)
  case atStart => exact ⟨0, Nat.zero_le _, rfl, rfl⟩
  case round =>
    obtain ⟨k, hk, rfl, HK⟩ := hrel
    by_cases hlt : k < ps.length
    · obtain ⟨q, hq⟩ : ∃ q, ps[k]? = some q := ⟨_, List.getElem?_eq_getElem hlt⟩
      obtain ⟨g, o, rfl, hg, e0⟩ : ∃ g o, va = some ⟨g, o, none⟩ ∧ g < w.heap.size ∧ w.cell? ⟨g, o + k * 5, none⟩ = some (.string (bs q.1.en.id)) := by
        obtain ⟨a', cap', ev, -, -, hr⟩ := HS.out
        cases ev
        obtain ⟨g, o, ea, hr⟩ := hr (by omega)
        exact ⟨g, o, ea, hr.1, by have := hr.2 k q hq 0 _ rfl; simpa using this⟩
      have hk0 : (0 : Int) ≤ (k : Int) := by omega
      have hk1 : (k : Int) < (ps.length : Int) := by omega
      have hm : (ps.map Prod.fst)[k]? = some q.1 := by rw [List.getElem?_map, hq]; rfl
      have hl := name_beq q.1.en.id a
      have HM := hid hm
      clear hm hq
      by_cases hfa : q.1.en.id = a
      · rw [decide_eq_true hfa] at hl
        have HE := hid (show findI (ps.map Prod.fst) a = (k : Int) by
          have h1 := HK.out
          rw [← hfa] at h1 ⊢
          unfold findI
          rw [find_here HM.out h1])
        clear hfa
        go_wp2_with fail
        go_ret
        exact ⟨by rw [HE.out]; rfl, rfl⟩
      · rw [decide_eq_false hfa] at hl
        have HE := hid (show Li.find ((ps.map Prod.fst).take (k + 1)) a = none by rw [take_snoc HM.out, find_append, HK.out]; simp [hfa])
        clear hfa
        go_wp2_with fail
        go_round
        case rel => exact ⟨k + 1, by omega, by go_num, HE⟩
        case measure => simp [RowKit.intOf]; omega
    · have HE := hid (show findI (ps.map Prod.fst) a = -1 by
        have h1 := HK.out
        rw [List.take_of_length_le (by rw [List.length_map]; omega)] at h1
        unfold findI
        rw [h1])
      go_wp2_with fail
      go_ret
      exact ⟨by rw [HE.out]; rfl, rfl⟩

end Go.Proofs.YtidkmhokolknbaaGreatDoor

namespace Go.Proofs.YtidkmhokolknbaaGreatDoor
open Go.RowKit Go.Lib Go.Maps

theorem contains_no {l : List UInt8} {k : Nat} {c : UInt8} (h : k ≤ l.length) (hl : (l.take k).contains c = false) (hk : ¬ k < l.length) : l.contains c = false := by
  rwa [List.take_of_length_le (by omega)] at hl
theorem contains_step {l : List UInt8} {k : Nat} {c d : UInt8} (hd : l[k]? = some d) (h : (l.take k).contains c = false) (hc : ¬ d = c) : (l.take (k + 1)).contains c = false := by
  rw [List.take_add_one, hd, List.contains_eq_any_beq, List.any_append, ← List.contains_eq_any_beq, h]
  simpa using Ne.symm hc

set_option maxRecDepth 100000 in
set_option maxHeartbeats 1000000 in
theorem ramong_any (l : List UInt8) (i : Nat) (set : ByteArray) (w : World) (hs : set.size ≤ 100) (hl : l.length ≤ 9223372036854775807) : Calls Tryz.prog 102 #[.string (bs l), .int .i64 i, .string set] w (Gives (.bool (Sc.among l i set.data.toList)) w) := by
  have hbl := bs_len l
  by_cases hi : i < l.length
  · have hge : decide (l.length ≤ i) = false := decide_eq_false (by omega)
    have hi0 : (0 : Int) ≤ (i : Int) := by omega
    have hi1 : (i : Int) < (l.length : Int) := by omega
    obtain ⟨c, hc⟩ : ∃ c, l[i]? = some c := ⟨_, List.getElem?_eq_getElem hi⟩
    have HC := hid hc
    have HE := hid (show Sc.among l i set.data.toList = set.data.toList.contains c by unfold Sc.among; rw [hc])
    clear hc
    go_enter Tryz.func102, Tryz.ntmps102
    go_wp2_with fail
    go_loopw [7] (fun iv wr => ∃ k : Nat, k ≤ set.size ∧ iv = .int .i64 k ∧ Hid ((set.data.toList.take k).contains c = false) ∧ Hid (Below w.heap.size w wr)) (fun iv _ => set.size - (RowKit.intOf iv).toNat)
    case atStart => exact ⟨0, Nat.zero_le _, rfl, rfl, Below.refl _ _⟩
    case round =>
      obtain ⟨k, hk, rfl, HK, HR⟩ := hrel
      by_cases hlt : k < set.size
      · have hk0 : (0 : Int) ≤ (k : Int) := by omega
        have hk1 : (k : Int) < (set.size : Int) := by omega
        obtain ⟨d, hd⟩ : ∃ d, set.data.toList[k]? = some d := ⟨_, List.getElem?_eq_getElem hlt⟩
        have hgd : set[k] = d := Option.some.inj ((by rw [List.getElem?_eq_getElem hlt]; rfl : set.data.toList[k]? = some set[k]).symm.trans hd)
        have hbi : i < (bs l).size := by omega
        have hgc : (bs l)[i] = c := Option.some.inj ((by rw [List.getElem?_eq_getElem hi]; rfl : l[i]? = some (bs l)[i]).symm.trans HC.out)
        have hu := u8_beq d c
        obtain ⟨q, hq⟩ : ∃ q, q = (d == c) := ⟨_, rfl⟩
        rw [← hq] at hu
        have HQ := hid hq
        have HD := hid hd
        clear hq hd
        go_wp2_with fail
        refine wp_heldS (S := StillAt wr) (by kernel_rfl) ?_
        simp only [List.size_toArray, List.length_cons, List.length_nil, Nat.reduceAdd]
        intro hc
        have S0 : StillAt wr (Array.replicate 7 false) wr.drew := (Below.refl _ _).drew
        refine wpAnyS_take (i := 0) (v := .string set) rfl (by kernel_rfl) (by kernel_rfl) (by kernel_rfl) (fun _ _ _ h => h) (fun _ _ => Iff.rfl) hc (by first | rfl | simp [Region.wanted]) (fun wx hx => ?_) S0 (fun hc S0 => ?_)
        · go_simp
        try simp only [List.getElem_toArray, List.getElem_cons_zero, Act.put, List.setIfInBounds_toArray, List.set_cons_zero, List.set_cons_succ]
        refine wpAnyS_take (i := 1) (v := .int .i64 k) rfl (by kernel_rfl) (by kernel_rfl) (by kernel_rfl) (fun _ _ _ h => h) (fun _ _ => Iff.rfl) hc (by first | rfl | simp [Region.wanted]) (fun wx hx => ?_) S0 (fun hc S0 => ?_)
        · go_simp
        try simp only [List.getElem_toArray, List.getElem_cons_succ, List.getElem_cons_zero, Act.put, List.setIfInBounds_toArray, List.set_cons_zero, List.set_cons_succ]
        refine wpAnyS_take (i := 2) (v := .int .u8 d.toNat) rfl (by kernel_rfl) (by kernel_rfl) (by kernel_rfl) (fun _ _ _ h => h) (fun _ _ => Iff.rfl) hc (by first | rfl | simp [Region.wanted]) (fun wx hx => ?_) S0 (fun hc S0 => ?_)
        · go_simp
        try simp only [List.getElem_toArray, List.getElem_cons_succ, List.getElem_cons_zero, Act.put, List.setIfInBounds_toArray, List.set_cons_zero, List.set_cons_succ]
        refine wpAnyS_take (i := 3) (v := .string (bs l)) rfl (by kernel_rfl) (by kernel_rfl) (by kernel_rfl) (fun _ _ _ h => h) (fun _ _ => Iff.rfl) hc (by first | rfl | simp [Region.wanted]) (fun wx hx => ?_) S0 (fun hc S0 => ?_)
        · go_simp
        try simp only [List.getElem_toArray, List.getElem_cons_succ, List.getElem_cons_zero, Act.put, List.setIfInBounds_toArray, List.set_cons_zero, List.set_cons_succ]
        refine wpAnyS_take (i := 4) (v := .int .i64 i) rfl (by kernel_rfl) (by kernel_rfl) (by kernel_rfl) (fun _ _ _ h => h) (fun _ _ => Iff.rfl) hc (by first | rfl | simp [Region.wanted]) (fun wx hx => ?_) S0 (fun hc S0 => ?_)
        · go_simp
        try simp only [List.getElem_toArray, List.getElem_cons_succ, List.getElem_cons_zero, Act.put, List.setIfInBounds_toArray, List.set_cons_zero, List.set_cons_succ]
        refine wpAnyS_take (i := 5) (v := .int .u8 c.toNat) rfl (by kernel_rfl) (by kernel_rfl) (by kernel_rfl) (fun _ _ _ h => h) (fun _ _ => Iff.rfl) hc (by first | rfl | simp [Region.wanted]) (fun wx hx => ?_) S0 (fun hc S0 => ?_)
        · go_simp
        try simp only [List.getElem_toArray, List.getElem_cons_succ, List.getElem_cons_zero, Act.put, List.setIfInBounds_toArray, List.set_cons_zero, List.set_cons_succ]
        refine wpAnyS_one (i := 6) rfl (by kernel_rfl) (by rfl) hc (fun K' hK => ?_)
        go_simp
        refine hK.out _ _ (Below.refl _ _).drew (fun hc => ?_)
        clear hK K'
        have S0 : StillAt wr #[] wr.drew := (Below.refl _ _).drew
        try simp only [List.getElem_toArray, List.getElem_cons_succ, List.getElem_cons_zero, Act.put, List.setIfInBounds_toArray, List.set_cons_zero, List.set_cons_succ]
        refine wpAnyS_done (by kernel_rfl) ?_ _
        clear hc S0
        have HB := hid (HR.out.drew)
        cases q with
        | true =>
          have HE2 := hid (show Sc.among l i set.data.toList = true by
            rw [HE.out, List.contains_iff_mem]
            have := beq_iff_eq.1 HQ.out.symm
            rw [← this]
            exact List.mem_of_getElem? HD.out)
          go_wp2_with fail
          go_ret
          exact ⟨by rw [HE2.out]; rfl, HB.out⟩
        | false =>
          have HK2 := hid (contains_step HD.out HK.out (beq_eq_false_iff_ne.1 HQ.out.symm))
          go_wp2_with fail
          go_roundw
          case rel =>
            exact ⟨k + 1, by omega, by go_num, HK2, HB⟩
          case measure => simp [RowKit.intOf]; omega
      · have hk1 : ¬ (k : Int) < (set.size : Int) := by omega
        have HE2 := hid (show Sc.among l i set.data.toList = false by rw [HE.out]; exact contains_no hk HK.out hlt)
        go_wp2_with fail
        go_ret
        exact ⟨by rw [HE2.out]; rfl, HR.out⟩
  · have hge : decide (l.length ≤ i) = true := decide_eq_true (by omega)
    have HE2 := hid (show Sc.among l i set.data.toList = false by unfold Sc.among; rw [List.getElem?_eq_none (by omega)])
    clear hi
    go_enter Tryz.func102, Tryz.ntmps102
    go_wp2_with fail
    go_ret
    exact ⟨by rw [HE2.out]; rfl, Below.refl _ _⟩

/-- among, at the letters that the program names -/
theorem among_drop (s : List UInt8) (i j : Nat) (set : List UInt8) : Sc.among s (i + j) set = Sc.among (s.drop i) j set := by
  unfold Sc.among
  rw [List.getElem?_drop]
theorem among_cased (s : List UInt8) : Sc.among s 0 (Sc.small ++ Sc.caps) = Sc.among (s.map Sc.low) 0 Sc.small := by
  unfold Sc.among
  cases s with
  | nil => rfl
  | cons c s =>
    simp only [List.getElem?_cons_zero, List.map_cons]
    have h : ∀ n : Fin 256, (Sc.small ++ Sc.caps).contains (UInt8.ofFin n) = Sc.small.contains (Sc.low (UInt8.ofFin n)) := by decide +kernel
    have := h c.toFin
    simpa using this

theorem vow_ons {s : List UInt8} (h : Sc.among s 0 Sc.vow = true) : Sc.among s 0 Sc.ons = false := by
  unfold Sc.among at *
  cases s with
  | nil => cases h
  | cons c s =>
    simp only [List.getElem?_cons_zero] at *
    have : ∀ n : Fin 256, Sc.vow.contains (UInt8.ofFin n) = true → Sc.ons.contains (UInt8.ofFin n) = false := by decide +kernel
    exact this c.toFin (by simpa using h)
/-- lengths, of what is known of the letters -/
theorem len_1 {s : List UInt8} {b : Bool} (h : b = Sc.among s 0 Sc.small) : Sc.len 1 s = if b = true then 1 else 0 := by unfold Sc.len; rw [h, if_pos rfl]
theorem len_2 {s : List UInt8} {b d : Bool} (h : b = Sc.among s 0 (Sc.small ++ Sc.caps)) (h2 : d = Sc.among s 1 Sc.acc) : Sc.len 2 s = if b = true then (if d = true then 2 else 1) else 0 := by
  unfold Sc.len; rw [h, h2, among_cased, if_neg (by decide), if_pos rfl]
theorem len_3 {s : List UInt8} {b : Bool} (h : b = Sc.among s 0 Sc.abj) : Sc.len 3 s = if b = true then 1 else 0 := by unfold Sc.len; rw [h, if_neg (by decide), if_neg (by decide), if_pos rfl]
theorem len_4 {s : List UInt8} {a b c d : Bool} (h : a = Sc.among s 0 Sc.vow) (h2 : b = Sc.among s 0 Sc.ons) (h3 : c = Sc.among s 1 Sc.vow) (h4 : d = Sc.among s 0 [110]) : Sc.len 4 s = if a = true then 1 else if (b && c) = true then 2 else if d = true then 1 else 0 := by
  unfold Sc.len; rw [if_neg (by decide), if_neg (by decide), if_neg (by decide), if_pos rfl, ← h, ← h2, ← h3, ← h4]
  cases a with
  | false => cases b <;> cases c <;> cases d <;> rfl
  | true =>
    have := vow_ons h.symm
    rw [← h2] at this
    rw [this]; rfl
theorem len_0 {s : List UInt8} {k : Int} (h1 : k ≠ 1) (h2 : k ≠ 2) (h3 : k ≠ 3) (h4 : k ≠ 4) : Sc.len k s = 0 := by unfold Sc.len; rw [if_neg h1, if_neg h2, if_neg h3, if_neg h4]

set_option maxRecDepth 100000 in
set_option maxHeartbeats 4000000 in
theorem rlength_any (k : Int) (l : List UInt8) (i : Nat) (w : World) (hi : i ≤ l.length) (hl : l.length ≤ 4611686018427387904) : Calls Tryz.prog 79 #[.int .i64 k, .string (bs l), .int .i64 i] w (Gives (.int .i64 (Sc.len k (l.drop i))) w) := by
  by_cases hk : k = 1
  · subst hk
    obtain ⟨b0, hb0⟩ : ∃ b, b = Sc.among (l.drop i) 0 Sc.small := ⟨_, rfl⟩
    have HA : Hid (∀ W, Calls Tryz.prog 102 #[.string (bs l), .int .i64 (i : Int), .string ⟨#[97, 98, 99, 100, 101, 102, 103, 104, 105, 106, 107, 108, 109, 110, 111, 112, 113, 114, 115, 116, 117, 118, 119, 120, 121, 122]⟩] W (Gives (.bool b0) W)) := fun W => by
      have h := ramong_any l i ⟨#[97, 98, 99, 100, 101, 102, 103, 104, 105, 106, 107, 108, 109, 110, 111, 112, 113, 114, 115, 116, 117, 118, 119, 120, 121, 122]⟩ W (by decide) (by omega)
      rw [show Sc.among l i (⟨#[97, 98, 99, 100, 101, 102, 103, 104, 105, 106, 107, 108, 109, 110, 111, 112, 113, 114, 115, 116, 117, 118, 119, 120, 121, 122]⟩ : ByteArray).data.toList = b0 by rw [hb0]; exact among_drop l i 0 _] at h
      exact h
    have HL := hid (len_1 hb0)
    clear hb0
    go_enter Tryz.func79, Tryz.ntmps79
    go_wp2_with fail
    refine (HA.out _).mono ?_
    rintro e w1 ⟨rfl, hbw1⟩
    have HBw1 := hid (hbw1)
    clear hbw1
    cases b0 with
    | true =>
      have HE := HL
      go_wp2_with fail
      go_ret
      exact ⟨by rw [HE.out]; rfl, HBw1.out⟩
    | false =>
      have HE := HL
      go_wp2_with fail
      go_ret
      exact ⟨by rw [HE.out]; rfl, HBw1.out⟩
  have HK1 := hid hk
  clear hk
  by_cases hk : k = 2
  · subst hk
    obtain ⟨b0, hb0⟩ : ∃ b, b = Sc.among (l.drop i) 0 (Sc.small ++ Sc.caps) := ⟨_, rfl⟩
    have HA : Hid (∀ W, Calls Tryz.prog 102 #[.string (bs l), .int .i64 (i : Int), .string ⟨#[97, 98, 99, 100, 101, 102, 103, 104, 105, 106, 107, 108, 109, 110, 111, 112, 113, 114, 115, 116, 117, 118, 119, 120, 121, 122, 65, 66, 67, 68, 69, 70, 71, 72, 73, 74, 75, 76, 77, 78, 79, 80, 81, 82, 83, 84, 85, 86, 87, 88, 89, 90]⟩] W (Gives (.bool b0) W)) := fun W => by
      have h := ramong_any l i ⟨#[97, 98, 99, 100, 101, 102, 103, 104, 105, 106, 107, 108, 109, 110, 111, 112, 113, 114, 115, 116, 117, 118, 119, 120, 121, 122, 65, 66, 67, 68, 69, 70, 71, 72, 73, 74, 75, 76, 77, 78, 79, 80, 81, 82, 83, 84, 85, 86, 87, 88, 89, 90]⟩ W (by decide) (by omega)
      rw [show Sc.among l i (⟨#[97, 98, 99, 100, 101, 102, 103, 104, 105, 106, 107, 108, 109, 110, 111, 112, 113, 114, 115, 116, 117, 118, 119, 120, 121, 122, 65, 66, 67, 68, 69, 70, 71, 72, 73, 74, 75, 76, 77, 78, 79, 80, 81, 82, 83, 84, 85, 86, 87, 88, 89, 90]⟩ : ByteArray).data.toList = b0 by rw [hb0]; exact among_drop l i 0 _] at h
      exact h
    obtain ⟨b1, hb1⟩ : ∃ b, b = Sc.among (l.drop i) 1 Sc.acc := ⟨_, rfl⟩
    have HA1 : Hid (∀ W, Calls Tryz.prog 102 #[.string (bs l), .int .i64 ((i : Int) + 1), .string ⟨#[39, 96, 94]⟩] W (Gives (.bool b1) W)) := fun W => by
      have h := ramong_any l (i + 1) ⟨#[39, 96, 94]⟩ W (by decide) (by omega)
      rw [show Sc.among l (i + 1) (⟨#[39, 96, 94]⟩ : ByteArray).data.toList = b1 by rw [hb1]; exact among_drop l i 1 _] at h
      exact h
    have HL := hid (len_2 hb0 hb1)
    clear hb0 hb1
    go_enter Tryz.func79, Tryz.ntmps79
    go_wp2_with fail
    refine (HA.out _).mono ?_
    rintro e w1 ⟨rfl, hbw1⟩
    have HBw1 := hid (hbw1)
    clear hbw1
    cases b0 with
    | true =>
      go_wp2_with fail
      refine (HA1.out _).mono ?_
      rintro e w2 ⟨rfl, hbw2⟩
      have HBw2 := hid (Below.step HBw1.out hbw2)
      clear hbw2
      cases b1 with
      | true =>
        have HE := HL
        go_wp2_with fail
        go_ret
        exact ⟨by rw [HE.out]; rfl, HBw2.out⟩
      | false =>
        have HE := HL
        go_wp2_with fail
        go_ret
        exact ⟨by rw [HE.out]; rfl, HBw2.out⟩
    | false =>
      have HE := HL
      go_wp2_with fail
      go_ret
      exact ⟨by rw [HE.out]; rfl, HBw1.out⟩
  have HK2 := hid hk
  clear hk
  by_cases hk : k = 3
  · subst hk
    obtain ⟨b0, hb0⟩ : ∃ b, b = Sc.among (l.drop i) 0 Sc.abj := ⟨_, rfl⟩
    have HA : Hid (∀ W, Calls Tryz.prog 102 #[.string (bs l), .int .i64 (i : Int), .string ⟨#[98, 100, 102, 103, 104, 106, 107, 108, 109, 110, 112, 113, 114, 115, 116, 119, 120, 121, 122, 39]⟩] W (Gives (.bool b0) W)) := fun W => by
      have h := ramong_any l i ⟨#[98, 100, 102, 103, 104, 106, 107, 108, 109, 110, 112, 113, 114, 115, 116, 119, 120, 121, 122, 39]⟩ W (by decide) (by omega)
      rw [show Sc.among l i (⟨#[98, 100, 102, 103, 104, 106, 107, 108, 109, 110, 112, 113, 114, 115, 116, 119, 120, 121, 122, 39]⟩ : ByteArray).data.toList = b0 by rw [hb0]; exact among_drop l i 0 _] at h
      exact h
    have HL := hid (len_3 hb0)
    clear hb0
    go_enter Tryz.func79, Tryz.ntmps79
    go_wp2_with fail
    refine (HA.out _).mono ?_
    rintro e w1 ⟨rfl, hbw1⟩
    have HBw1 := hid (hbw1)
    clear hbw1
    cases b0 with
    | true =>
      have HE := HL
      go_wp2_with fail
      go_ret
      exact ⟨by rw [HE.out]; rfl, HBw1.out⟩
    | false =>
      have HE := HL
      go_wp2_with fail
      go_ret
      exact ⟨by rw [HE.out]; rfl, HBw1.out⟩
  have HK3 := hid hk
  clear hk
  by_cases hk : k = 4
  · subst hk
    obtain ⟨a0, ha0⟩ : ∃ b, b = Sc.among (l.drop i) 0 Sc.vow := ⟨_, rfl⟩
    have HA : Hid (∀ W, Calls Tryz.prog 102 #[.string (bs l), .int .i64 (i : Int), .string ⟨#[97, 105, 117, 101, 111]⟩] W (Gives (.bool a0) W)) := fun W => by
      have h := ramong_any l i ⟨#[97, 105, 117, 101, 111]⟩ W (by decide) (by omega)
      rw [show Sc.among l i (⟨#[97, 105, 117, 101, 111]⟩ : ByteArray).data.toList = a0 by rw [ha0]; exact among_drop l i 0 _] at h
      exact h
    obtain ⟨b0, hb0⟩ : ∃ b, b = Sc.among (l.drop i) 0 Sc.ons := ⟨_, rfl⟩
    have HA1 : Hid (∀ W, Calls Tryz.prog 102 #[.string (bs l), .int .i64 (i : Int), .string ⟨#[107, 115, 116, 110, 104, 109, 121, 114, 119, 103, 122, 100, 98, 112]⟩] W (Gives (.bool b0) W)) := fun W => by
      have h := ramong_any l i ⟨#[107, 115, 116, 110, 104, 109, 121, 114, 119, 103, 122, 100, 98, 112]⟩ W (by decide) (by omega)
      rw [show Sc.among l i (⟨#[107, 115, 116, 110, 104, 109, 121, 114, 119, 103, 122, 100, 98, 112]⟩ : ByteArray).data.toList = b0 by rw [hb0]; exact among_drop l i 0 _] at h
      exact h
    obtain ⟨c0, hc0⟩ : ∃ b, b = Sc.among (l.drop i) 1 Sc.vow := ⟨_, rfl⟩
    have HA2 : Hid (∀ W, Calls Tryz.prog 102 #[.string (bs l), .int .i64 ((i : Int) + 1), .string ⟨#[97, 105, 117, 101, 111]⟩] W (Gives (.bool c0) W)) := fun W => by
      have h := ramong_any l (i + 1) ⟨#[97, 105, 117, 101, 111]⟩ W (by decide) (by omega)
      rw [show Sc.among l (i + 1) (⟨#[97, 105, 117, 101, 111]⟩ : ByteArray).data.toList = c0 by rw [hc0]; exact among_drop l i 1 _] at h
      exact h
    obtain ⟨d0, hd0⟩ : ∃ b, b = Sc.among (l.drop i) 0 [110] := ⟨_, rfl⟩
    have HA3 : Hid (∀ W, Calls Tryz.prog 102 #[.string (bs l), .int .i64 (i : Int), .string ⟨#[110]⟩] W (Gives (.bool d0) W)) := fun W => by
      have h := ramong_any l i ⟨#[110]⟩ W (by decide) (by omega)
      rw [show Sc.among l i (⟨#[110]⟩ : ByteArray).data.toList = d0 by rw [hd0]; exact among_drop l i 0 _] at h
      exact h
    have HL := hid (len_4 ha0 hb0 hc0 hd0)
    clear ha0 hb0 hc0 hd0
    go_enter Tryz.func79, Tryz.ntmps79
    go_wp2_with fail
    refine (HA.out _).mono ?_
    rintro e w1 ⟨rfl, hbw1⟩
    have HBw1 := hid (hbw1)
    clear hbw1
    cases a0 with
    | true =>
      have HE := HL
      go_wp2_with fail
      go_ret
      exact ⟨by rw [HE.out]; rfl, HBw1.out⟩
    | false =>
      go_wp2_with fail
      refine (HA1.out _).mono ?_
      rintro e w2 ⟨rfl, hbw2⟩
      have HBw2 := hid (Below.step HBw1.out hbw2)
      clear hbw2
      cases b0 with
      | true =>
        go_wp2_with fail
        refine (HA2.out _).mono ?_
        rintro e w3 ⟨rfl, hbw3⟩
        have HBw3 := hid (Below.step HBw2.out hbw3)
        clear hbw3
        cases c0 with
        | true =>
          have HE := HL
          go_wp2_with fail
          go_ret
          exact ⟨by rw [HE.out]; rfl, HBw3.out⟩
        | false =>
          go_wp2_with fail
          refine (HA3.out _).mono ?_
          rintro e w4 ⟨rfl, hbw4⟩
          have HBw4 := hid (Below.step HBw3.out hbw4)
          clear hbw4
          cases d0 with
          | true =>
            have HE := HL
            go_wp2_with fail
            go_ret
            exact ⟨by rw [HE.out]; rfl, HBw4.out⟩
          | false =>
            have HE := HL
            go_wp2_with fail
            go_ret
            exact ⟨by rw [HE.out]; rfl, HBw4.out⟩
      | false =>
        go_wp2_with fail
        refine (HA3.out _).mono ?_
        rintro e w4 ⟨rfl, hbw4⟩
        have HBw4 := hid (Below.step HBw2.out hbw4)
        clear hbw4
        cases d0 with
        | true =>
          have HE := HL
          go_wp2_with fail
          go_ret
          exact ⟨by rw [HE.out]; rfl, HBw4.out⟩
        | false =>
          have HE := HL
          go_wp2_with fail
          go_ret
          exact ⟨by rw [HE.out]; rfl, HBw4.out⟩
  have k1 : (k == 1) = false := beq_eq_false_iff_ne.2 HK1.out
  have k2 : (k == 2) = false := beq_eq_false_iff_ne.2 HK2.out
  have k3 : (k == 3) = false := beq_eq_false_iff_ne.2 HK3.out
  have k4 : (k == 4) = false := beq_eq_false_iff_ne.2 hk
  have HE := hid (len_0 (s := l.drop i) HK1.out HK2.out HK3.out hk)
  clear hk
  go_enter Tryz.func79, Tryz.ntmps79
  go_wp2_with fail
  go_ret
  exact ⟨by rw [HE.out]; rfl, Below.refl _ _⟩

end Go.Proofs.YtidkmhokolknbaaGreatDoor

namespace Go.Proofs.YtidkmhokolknbaaGreatDoor
open Go.RowKit Go.Lib Go.Maps

theorem Tryz.infoStrR : (Tryz.prog.info? 9).map (fun i => (i.zero, i.size, i.bytes)) = some (some (.string ⟨#[]⟩), 1, 16) := by kernel_rfl

/-- the letters of a word so far -/
def RLs (k : Int) (l : List UInt8) (i : Nat) (ls : List (List UInt8)) : Prop := Sc.cuts k l = (ls ++ (Sc.cuts k (l.drop i)).1, (Sc.cuts k (l.drop i)).2) ∧ ls.length ≤ 12
theorem RLs.start (k : Int) (l : List UInt8) : RLs k l 0 [] := ⟨by rw [List.drop_zero]; rfl, by simp⟩
theorem RLs.step {k : Int} {l : List UInt8} {i : Nat} {ls : List (List UInt8)} (h : RLs k l i ls) (h0 : Sc.len k (l.drop i) ≠ 0) (h12 : ls.length ≠ 12) : RLs k l (i + Sc.len k (l.drop i)) (ls ++ [(l.drop i).take (Sc.len k (l.drop i))]) := by
  refine ⟨?_, by rw [List.length_append]; have := h.2; simp; omega⟩
  rw [h.1, Sc.cuts_step h0, List.drop_drop, List.append_assoc]
  rfl
theorem RLs.stop {k : Int} {l : List UInt8} {i : Nat} {ls : List (List UInt8)} (h : RLs k l i ls) (hi : i < l.length) (h0 : Sc.len k (l.drop i) = 0 ∨ ls.length = 12) : Sc.lets k l = none := by
  unfold Sc.lets
  rw [if_neg]
  rintro ⟨h1, h2, h3⟩
  rw [h.1] at h1 h3
  simp only at h1 h3
  by_cases hz : Sc.len k (l.drop i) = 0
  · rw [Sc.cuts_stop hz] at h1
    have := congrArg List.length h1
    simp at this
    omega
  · rw [Sc.cuts_step hz, List.length_append] at h3
    simp at h3
    omega
theorem RLs.done {k : Int} {l : List UInt8} {i : Nat} {ls : List (List UInt8)} (h : RLs k l i ls) (hi : ¬ i < l.length) : Sc.lets k l = if ls = [] then none else some ls := by
  have hd : l.drop i = [] := List.drop_eq_nil_of_le (by omega)
  have hc : Sc.cuts k l = (ls, []) := by rw [h.1, hd]; simp [Sc.cuts, Sc.cut]
  unfold Sc.lets
  rw [hc]
  by_cases hl : ls = []
  · rw [if_pos hl, if_neg (by simp [hl])]
  · rw [if_neg hl, if_pos ⟨rfl, hl, h.2⟩]

/-- what Letters ends in -/
def RLeP (k : Int) (l : List UInt8) (w : World) (e : Ending) (w' : World) : Prop :=
  ∃ v, e = .returned (.tuple #[v, .int .i64 (if (Sc.lets k l).isSome = true then 0 else 1)]) ∧ Below w.heap.size w w'

set_option maxRecDepth 100000 in
set_option maxHeartbeats 4000000 in
theorem rletters_any (k : Int) (l : List UInt8) (w : World) (hl : l.length ≤ 4611686018427387904) : Calls Tryz.prog 103 #[.int .i64 k, .string (bs l)] w (RLeP k l w) := by
  obtain ⟨i0, hi, hz0, hz1, hz2⟩ := info_parts Tryz.infoStrR
  have hbl := bs_len l
  go_enter Tryz.func103, Tryz.ntmps103
  go_wp2_with fail
  go_loopw [6, 7] (fun ov iv wr => ∃ (i : Nat) (mv : Value) (ls : List (List UInt8)), i ≤ l.length ∧ iv = .int .i64 i ∧ mv = ov ∧ Hid (wr.ownsRow w.heap.size 9 1 mv ls.length (ls.flatMap strC)) ∧ Hid (RLs k l i ls) ∧ Hid (Below w.heap.size w wr)) (fun _ iv _ => l.length - (RowKit.intOf iv).toNat)
  case atStart => exact ⟨0, _, [], Nat.zero_le _, rfl, rfl, World.ownsRow_nil _ _ _ _, RLs.start k l, Below.refl _ _⟩
  case round =>
    obtain ⟨i, ov, ls, hi_, rfl, rfl, HO, HS, HR⟩ := hrel
    obtain ⟨oa, oc, rfl⟩ := ownsRow_slice HO.out
    have h12 := HS.out.2
    by_cases hlt : i < l.length
    · have HLE := hid (rlength_any k l i wr (by omega) hl)
      obtain ⟨n, hn⟩ : ∃ n, n = Sc.len k (l.drop i) := ⟨_, rfl⟩
      rw [← hn] at HLE
      have hnl := Sc.len_le k (l.drop i)
      rw [← hn, List.length_drop] at hnl
      have HN := hid hn
      clear hn
      go_wp2_with fail
      refine (HLE.out).mono ?_
      rintro e w2 ⟨rfl, hb2⟩
      have HB2 := hid hb2
      have HBT := hid (Below.step HR.out hb2)
      clear hb2
      by_cases hz : n = 0
      · have HE := hid (HS.out.stop hlt (.inl (by rw [← HN.out]; exact hz)))
        have g1 : ((n : Int) == 0) = true := by rw [hz]; rfl
        clear hz
        go_wp2_with fail
        go_ret2
        exact ⟨_, by rw [HE.out]; rfl, HBT.out⟩
      · have g1 : ((n : Int) == 0) = false := by rw [beq_eq_false_iff_ne]; omega
        by_cases hm : ls.length = 12
        · have HE := hid (HS.out.stop hlt (.inr hm))
          have g2 : ((ls.length : Int) == 12) = true := by rw [hm]; rfl
          clear hz hm
          go_wp2_with fail
          go_ret2
          exact ⟨_, by rw [HE.out]; rfl, HBT.out⟩
        · have g2 : ((ls.length : Int) == 12) = false := by rw [beq_eq_false_iff_ne]; omega
          have HS2 := hid (HS.out.step (by rw [← HN.out]; exact hz) hm)
          rw [← HN.out] at HS2
          have x2 : (bs l).extract i (i + n) = bs ((l.drop i).take n) := by
            rw [extract_bs, show i + n - i = n by omega]
            rfl
          obtain ⟨x, hx⟩ : ∃ x, x = (l.drop i).take n := ⟨_, rfl⟩
          rw [← hx] at x2 HS2
          have hown2 := (ownsRow_below HO.out HB2.out).alloc (.cells #[.string (bs x)] 9)
          have hz2' := HBT.out.size
          clear hx hm
          go_wp2_with (at_builtin; refine wpList_append_own _ rfl _ _ 68 rfl w.heap.size 9 i0 (.string ⟨#[]⟩) 1 16 Tryz.underlying68 hi hz0 hz1 hz2 rfl (by decide) _ _ _ rfl hown2 ⟨w2.heap.size, 0, none⟩ 1 1 [.string (bs x)] rfl rfl (cells_new rfl) (by simp [Value.oneCell']) (by unfold maxLen; omega) (by omega) (by simp; omega) ?_; intro v' w4 ho4 hg4 _)
          go_roundw
          case rel =>
            refine ⟨i + n, _, ls ++ [x], by omega, by go_num, rfl, ?_, HS2, Below.appended (HBT.out.alloc hz2' _) hg4 (by simp; omega) hown2⟩
            rw [List.length_append, List.flatMap_append]
            exact ho4
          case measure => simp [RowKit.intOf]; omega
    · have HE := hid (HS.out.done hlt)
      cases ls with
      | nil =>
        go_wp2_with fail
        go_ret2
        exact ⟨_, by rw [HE.out]; rfl, HR.out⟩
      | cons x ls =>
        have g1 : (((x :: ls).length : Int) == 0) = false := by rw [beq_eq_false_iff_ne]; simp; omega
        go_wp2_with fail
        go_ret2
        exact ⟨_, by rw [HE.out]; rfl, HR.out⟩

set_option maxRecDepth 100000 in
theorem rword_any (k : Int) (l : List UInt8) (w : World) (hl : l.length ≤ 4611686018427387904) : Calls Tryz.prog 82 #[.int .i64 k, .string (bs l)] w (Gives (.bool (Sc.lets k l).isSome) w) := by
  have HL := hid (rletters_any k l w hl)
  go_enter Tryz.func82, Tryz.ntmps82
  go_wp2_with fail
  refine (HL.out).mono ?_
  rintro e w2 ⟨v, rfl, hb⟩
  have HB := hid hb
  clear hb
  obtain ⟨b, hbb⟩ : ∃ b, b = (Sc.lets k l).isSome := ⟨_, rfl⟩
  rw [← hbb]
  have HBB := hid hbb
  clear hbb
  cases b with
  | true =>
    go_wp2_with fail
    go_ret
    exact ⟨ret_bool HBB.out, HB.out⟩
  | false =>
    go_wp2_with fail
    go_ret
    exact ⟨ret_bool HBB.out, HB.out⟩

theorem nmOk_eq (n : Li.Nm) : Li.nmOk n = (n.words.all (fun x => (Sc.lets n.script x).isSome) && (decide (1 ≤ n.words.length) && decide (n.words.length ≤ 6))) := by
  unfold Li.nmOk
  rw [Bool.and_assoc]
  rfl

set_option maxRecDepth 100000 in
set_option maxHeartbeats 4000000 in
theorem rvalid_any (sc : Int) (ws : List (List UInt8)) (v : Value) (w : World) (h : SlOf w v 1 strC ws) (hl : ∀ x ∈ ws, x.length ≤ 4611686018427387904) : Calls Tryz.prog 58 #[.agg #[.int .i64 sc, v]] w (Gives (.bool (Li.nmOk ⟨sc, ws⟩)) w) := by
  have HSL := hid h
  obtain ⟨va, cap, rfl, k1, k2, -⟩ := h
  have hwl : ws.length ≤ 9223372036854775807 := by unfold maxLen at k2; omega
  obtain ⟨W1, hW1⟩ : ∃ W1, W1 = w.alloc (.cells #[.int .i64 sc, .slice va ws.length cap] 73) := ⟨_, rfl⟩
  have HB1 := hid (show Below w.heap.size w W1 by rw [hW1]; exact (Below.refl _ w).alloc (Nat.le_refl _) _)
  have hd1 : W1.heap[w.heap.size]? = some (.cells #[.int .i64 sc, .slice va ws.length cap] 73 (0, 0)) := by rw [hW1]; exact alloc_new w _
  have HC : Hid (∀ W, Below W1.heap.size W1 W → W.cell? ⟨w.heap.size, 0, none⟩ = some (.int .i64 sc) ∧ W.cell? ⟨w.heap.size, 1, none⟩ = some (.slice va ws.length cap) ∧ w.heap.size < W.heap.size) := fun W hW => by
    have hd := (hW.block _ (Array.getElem?_eq_some_iff.1 hd1).1).trans hd1
    exact ⟨by simp [World.cell?, hd], by simp [World.cell?, hd], (Array.getElem?_eq_some_iff.1 hd).1⟩
  obtain ⟨f0, f1, z1⟩ := HC.out W1 (Below.refl _ _)
  clear k1 k2 hd1
  go_enter Tryz.func58, Tryz.ntmps58
  go_upto_region 1 with (fail)
  rw [← hW1]
  clear hW1
  go_wp2_with fail
  go_loopw [3] (fun iv wr => ∃ k : Nat, k ≤ ws.length ∧ iv = .int .i64 k ∧ Hid ((ws.take k).all (fun x => (Sc.lets sc x).isSome) = true) ∧ Hid (Below W1.heap.size W1 wr)) (fun iv _ => ws.length - (RowKit.intOf iv).toNat)
  case atStart => exact ⟨0, Nat.zero_le _, rfl, rfl, Below.refl _ _⟩
  case round =>
    obtain ⟨k, hk, rfl, HK, HR⟩ := hrel
    obtain ⟨d0, d1, zr⟩ := HC.out wr HR.out
    clear f0 f1 z1
    by_cases hlt : k < ws.length
    · obtain ⟨x, hx⟩ : ∃ x, ws[k]? = some x := ⟨_, List.getElem?_eq_getElem hlt⟩
      obtain ⟨g, o, rfl, hr⟩ : ∃ g o, va = some ⟨g, o, none⟩ ∧ RowOf wr g o 1 strC ws := by
        obtain ⟨a', cap', ev, -, -, hr⟩ := (HSL.out.below HB1.out).below HR.out
        cases ev
        exact hr (by omega)
      have e0 := hr.2 k x hx 0 _ rfl
      have hg := hr.1
      have HX := hid (hl x (List.mem_of_getElem? hx))
      have HXX := hid hx
      have hk0 : (0 : Int) ≤ (k : Int) := by omega
      have hk1 : (k : Int) < (ws.length : Int) := by omega
      rw [Nat.add_zero, Nat.mul_one] at e0
      obtain ⟨b, hb⟩ : ∃ b, b = (Sc.lets sc x).isSome := ⟨_, rfl⟩
      have HW : Hid (Calls Tryz.prog 82 #[.int .i64 sc, .string (bs x)] wr.drew (Gives (.bool b) wr.drew)) := by rw [hb]; exact rword_any sc x wr.drew HX.out
      have HBB := hid hb
      clear hr hx hb
      go_wp2_with fail
      refine wp_heldS (S := StillAt wr) (by kernel_rfl) ?_
      simp only [List.size_toArray, List.length_cons, List.length_nil, Nat.reduceAdd]
      intro hc
      have S0 : StillAt wr (Array.replicate 9 false) wr.drew := (Below.refl _ _).drew
      refine wpAnyS_take (i := 0) (v := .pointer (some ⟨w.heap.size, 0, none⟩)) rfl (by kernel_rfl) (by kernel_rfl) (by kernel_rfl) (fun _ _ _ h => h) (fun _ _ => Iff.rfl) hc (by first | rfl | simp [Region.wanted]) (fun wx hx => ?_) S0 (fun hc S0 => ?_)
      · go_simp
      try simp only [List.getElem_toArray, List.getElem_cons_zero, Act.put, List.setIfInBounds_toArray, List.set_cons_zero, List.set_cons_succ]
      refine wpAnyS_take (i := 1) (v := .int .i64 sc) rfl (by kernel_rfl) (by kernel_rfl) (by kernel_rfl) (fun _ _ _ h => h) (fun _ _ => Iff.rfl) hc (by first | rfl | simp [Region.wanted]) (fun wx hx => ?_) S0 (fun hc S0 => ?_)
      · have q := (hx.still.cell (p := ⟨w.heap.size, 0, none⟩) zr).trans d0
        go_simp
      try simp only [List.getElem_toArray, List.getElem_cons_succ, List.getElem_cons_zero, Act.put, List.setIfInBounds_toArray, List.set_cons_zero, List.set_cons_succ]
      refine wpAnyS_take (i := 2) (v := .pointer (some ⟨w.heap.size, 1, none⟩)) rfl (by kernel_rfl) (by kernel_rfl) (by kernel_rfl) (fun _ _ _ h => h) (fun _ _ => Iff.rfl) hc (by first | rfl | simp [Region.wanted]) (fun wx hx => ?_) S0 (fun hc S0 => ?_)
      · go_simp
      try simp only [List.getElem_toArray, List.getElem_cons_succ, List.getElem_cons_zero, Act.put, List.setIfInBounds_toArray, List.set_cons_zero, List.set_cons_succ]
      refine wpAnyS_take (i := 3) (v := .slice (some ⟨g, o, none⟩) ws.length cap) rfl (by kernel_rfl) (by kernel_rfl) (by kernel_rfl) (fun _ _ _ h => h) (fun _ _ => Iff.rfl) hc (by first | rfl | simp [Region.wanted]) (fun wx hx => ?_) S0 (fun hc S0 => ?_)
      · have q := (hx.still.cell (p := ⟨w.heap.size, 1, none⟩) zr).trans d1
        go_simp
      try simp only [List.getElem_toArray, List.getElem_cons_succ, List.getElem_cons_zero, Act.put, List.setIfInBounds_toArray, List.set_cons_zero, List.set_cons_succ]
      refine wpAnyS_take (i := 4) (v := .int .i64 k) rfl (by kernel_rfl) (by kernel_rfl) (by kernel_rfl) (fun _ _ _ h => h) (fun _ _ => Iff.rfl) hc (by first | rfl | simp [Region.wanted]) (fun wx hx => ?_) S0 (fun hc S0 => ?_)
      · go_simp
      try simp only [List.getElem_toArray, List.getElem_cons_succ, List.getElem_cons_zero, Act.put, List.setIfInBounds_toArray, List.set_cons_zero, List.set_cons_succ]
      refine wpAnyS_take (i := 5) (v := .pointer (some ⟨g, o + k, none⟩)) rfl (by kernel_rfl) (by kernel_rfl) (by kernel_rfl) (fun _ _ _ h => h) (fun _ _ => Iff.rfl) hc (by first | rfl | simp [Region.wanted]) (fun wx hx => ?_) S0 (fun hc S0 => ?_)
      · go_simp
      try simp only [List.getElem_toArray, List.getElem_cons_succ, List.getElem_cons_zero, Act.put, List.setIfInBounds_toArray, List.set_cons_zero, List.set_cons_succ]
      refine wpAnyS_take (i := 6) (v := .string (bs x)) rfl (by kernel_rfl) (by kernel_rfl) (by kernel_rfl) (fun _ _ _ h => h) (fun _ _ => Iff.rfl) hc (by first | rfl | simp [Region.wanted]) (fun wx hx => ?_) S0 (fun hc S0 => ?_)
      · have q := (hx.still.cell (p := ⟨g, o + k, none⟩) hg).trans e0
        go_simp
      try simp only [List.getElem_toArray, List.getElem_cons_succ, List.getElem_cons_zero, Act.put, List.setIfInBounds_toArray, List.set_cons_zero, List.set_cons_succ]
      refine wpAnyS_one (i := 7) rfl (by kernel_rfl) (by rfl) hc (fun K' hK => ?_)
      go_simp
      refine (HW.out).mono ?_
      rintro e w9 ⟨rfl, hb9'⟩
      have hb9 : Below wr.heap.size wr w9 := Below.step (Below.refl wr.heap.size wr).drew hb9'
      refine hK.out _ _ hb9 (fun hc => ?_)
      clear hK K'
      have S0 : StillAt wr #[] w9 := hb9
      try simp only [List.getElem_toArray, List.getElem_cons_succ, List.getElem_cons_zero, Act.put, List.setIfInBounds_toArray, List.set_cons_zero, List.set_cons_succ]
      refine wpAnyS_one (i := 8) rfl (by kernel_rfl) (by rfl) hc (fun K' hK => ?_)
      go_simp
      refine hK.out _ _ hb9 (fun hc => ?_)
      clear hK K'
      have S0 : StillAt wr #[] w9 := hb9
      try simp only [List.getElem_toArray, List.getElem_cons_succ, List.getElem_cons_zero, Act.put, List.setIfInBounds_toArray, List.set_cons_zero, List.set_cons_succ]
      refine wpAnyS_done (by kernel_rfl) ?_ _
      clear hc S0
      have HB9 := hid (Below.step HR.out hb9)
      clear hb9 hb9'
      cases b with
      | true =>
        have HK2 := hid (allTo_step HXX.out HK.out HBB.out.symm)
        go_wp2_with fail
        go_roundw
        case rel => exact ⟨k + 1, by omega, by go_num, HK2, HB9⟩
        case measure => simp [RowKit.intOf]; omega
      | false =>
        have HE := hid (show Li.nmOk ⟨sc, ws⟩ = false by rw [nmOk_eq]; show (ws.all _ && _) = false; rw [all_no HXX.out HBB.out.symm]; rfl)
        go_wp2_with fail
        go_ret
        exact ⟨by rw [HE.out]; rfl, Below.step HB1.out HB9.out⟩
    · have hke : k = ws.length := by omega
      have hall : ws.all (fun x => (Sc.lets sc x).isSome) = true := by have := HK.out; rwa [hke, List.take_length] at this
      have HE := hid (show Li.nmOk ⟨sc, ws⟩ = (decide (1 ≤ ws.length) && decide (ws.length ≤ 6)) by rw [nmOk_eq]; show (ws.all _ && _) = _; rw [hall]; rfl)
      have hk1 : ¬ (k : Int) < (ws.length : Int) := by omega
      clear hall hke
      by_cases h1 : 1 ≤ ws.length
      · rw [decide_eq_true h1] at HE
        by_cases h6 : ws.length ≤ 6
        · rw [decide_eq_true h6] at HE
          go_wp2_with fail
          go_ret
          exact ⟨by rw [HE.out]; simp; omega, Below.step HB1.out HR.out⟩
        · rw [decide_eq_false h6] at HE
          go_wp2_with fail
          go_ret
          exact ⟨by rw [HE.out]; simp; omega, Below.step HB1.out HR.out⟩
      · rw [decide_eq_false h1] at HE
        go_wp2_with fail
        go_ret
        exact ⟨by rw [HE.out]; simp, Below.step HB1.out HR.out⟩

end Go.Proofs.YtidkmhokolknbaaGreatDoor

namespace Li
theorem joinW_step {l : List (List UInt8)} {k : Nat} {x : List UInt8} (h : l[k]? = some x) : joinW (l.take (k + 1)) = joinW (l.take k) ++ (if k = 0 then x else 32 :: x) := by
  cases l with
  | nil => simp at h
  | cons y l =>
    cases k with
    | zero =>
      simp at h
      subst h
      simp [joinW]
    | succ k =>
      simp at h
      rw [if_neg (by omega), List.take_succ_cons, List.take_succ_cons]
      have ht : l.take (k + 1) = l.take k ++ [x] := by rw [List.take_add_one, h]; rfl
      rw [ht]
      show y ++ ((l.take k ++ [x]).flatMap fun y => 32 :: y) = (y ++ (l.take k).flatMap fun y => 32 :: y) ++ (32 :: x)
      rw [List.flatMap_append]
      simp
theorem joinW_take (l : List (List UInt8)) (k : Nat) : ∃ r, joinW l = joinW (l.take k) ++ r := by
  cases l with
  | nil => exact ⟨[], by simp [joinW]⟩
  | cons y l =>
    cases k with
    | zero => exact ⟨joinW (y :: l), by simp [joinW]⟩
    | succ k =>
      refine ⟨(l.drop k).flatMap fun y => 32 :: y, ?_⟩
      rw [List.take_succ_cons]
      unfold joinW
      rw [List.append_assoc, ← List.flatMap_append, List.take_append_drop]
theorem nmOk_title {sc : Int} {ws : List (List UInt8)} (h : nmOk ⟨sc, ws⟩ = true) : rtitle sc = title sc ++ [58] := by
  unfold nmOk at h
  simp only [Bool.and_eq_true, decide_eq_true_eq, List.all_eq_true] at h
  obtain ⟨⟨h1, h2⟩, -⟩ := h
  cases ws with
  | nil => simp at h2
  | cons x ws =>
    rcases lets_script (h1 x List.mem_cons_self) with rfl | rfl | rfl | rfl <;> rfl
end Li
namespace Go.Proofs.YtidkmhokolknbaaGreatDoor
open Go.RowKit Go.Lib Go.Maps

set_option maxRecDepth 100000 in
theorem rtitle_any (k : Int) (w : World) : Calls Tryz.prog 70 #[.int .i64 k] w (Gives (.string (bs (Li.rtitle k))) w) := by
  by_cases h1 : k = 1
  · subst h1
    go_enter Tryz.func70, Tryz.ntmps70
    go_wp2_with fail
    go_ret
    exact ⟨rfl, Below.refl _ _⟩
  by_cases h2 : k = 2
  · subst h2
    go_enter Tryz.func70, Tryz.ntmps70
    go_wp2_with fail
    go_ret
    exact ⟨rfl, Below.refl _ _⟩
  by_cases h3 : k = 3
  · subst h3
    go_enter Tryz.func70, Tryz.ntmps70
    go_wp2_with fail
    go_ret
    exact ⟨rfl, Below.refl _ _⟩
  have HE := hid (show Li.rtitle k = Li.tSyllab ++ [58] by unfold Li.rtitle; rw [if_neg h1, if_neg h2, if_neg h3])
  have k1 : (k == 1) = false := beq_eq_false_iff_ne.2 h1
  have k2 : (k == 2) = false := beq_eq_false_iff_ne.2 h2
  have k3 : (k == 3) = false := beq_eq_false_iff_ne.2 h3
  clear h1 h2 h3
  go_enter Tryz.func70, Tryz.ntmps70
  go_wp2_with fail
  go_ret
  exact ⟨by rw [HE.out]; rfl, Below.refl _ _⟩

/-- what the text of a name ends in -/
def RTxP (n : Li.Nm) (w : World) (e : Ending) (w' : World) : Prop :=
  e = .returned (.tuple #[.string (bs (if Li.nmOk n = true then Li.nameText n else [])), .int .i64 (if Li.nmOk n = true then 0 else 1)]) ∧ Below w.heap.size w w'

set_option maxRecDepth 100000 in
set_option maxHeartbeats 4000000 in
theorem rtext_any (sc : Int) (ws : List (List UInt8)) (v : Value) (w : World) (h : SlOf w v 1 strC ws) (hl : ∀ x ∈ ws, x.length ≤ 4611686018427387904) : Calls Tryz.prog 48 #[.agg #[.int .i64 sc, v]] w (RTxP ⟨sc, ws⟩ w) := by
  have HSL := hid h
  obtain ⟨va, cap, rfl, k1, k2, -⟩ := h
  have hwl : ws.length ≤ 9223372036854775807 := by unfold maxLen at k2; omega
  obtain ⟨W1, hW1⟩ : ∃ W1, W1 = w.alloc (.cells #[.int .i64 sc, .slice va ws.length cap] 73) := ⟨_, rfl⟩
  have HB1 := hid (show Below w.heap.size w W1 by rw [hW1]; exact (Below.refl _ w).alloc (Nat.le_refl _) _)
  have hd1 : W1.heap[w.heap.size]? = some (.cells #[.int .i64 sc, .slice va ws.length cap] 73 (0, 0)) := by rw [hW1]; exact alloc_new w _
  have HC : Hid (∀ W, Below W1.heap.size W1 W → W.cell? ⟨w.heap.size, 0, none⟩ = some (.int .i64 sc) ∧ W.cell? ⟨w.heap.size, 1, none⟩ = some (.slice va ws.length cap) ∧ w.heap.size < W.heap.size) := fun W hW => by
    have hd := (hW.block _ (Array.getElem?_eq_some_iff.1 hd1).1).trans hd1
    exact ⟨by simp [World.cell?, hd], by simp [World.cell?, hd], (Array.getElem?_eq_some_iff.1 hd).1⟩
  have HV := hid (rvalid_any sc ws (.slice va ws.length cap) W1 (HSL.out.below HB1.out) hl)
  obtain ⟨f0, f1, z1⟩ := HC.out W1 (Below.refl _ _)
  clear k1 k2 hd1
  go_enter Tryz.func48, Tryz.ntmps48
  go_upto_region 1 with (fail)
  rw [← hW1]
  clear hW1
  go_wp2_with fail
  refine (HV.out).mono ?_
  rintro e w2 ⟨rfl, hb2⟩
  have HB2 := hid hb2
  obtain ⟨b, hb⟩ : ∃ b, b = Li.nmOk ⟨sc, ws⟩ := ⟨_, rfl⟩
  rw [← hb]
  have HBB := hid hb
  clear hb hb2 f0 f1 z1
  obtain ⟨f0, f1, z1⟩ := HC.out w2 HB2.out
  cases b with
  | false =>
    go_wp2_with fail
    go_ret2
    exact ⟨by rw [← HBB.out]; rfl, Below.step HB1.out HB2.out⟩
  | true =>
    have HT := hid (rtitle_any sc w2)
    rw [Li.nmOk_title HBB.out.symm] at HT
    have hnl := Li.nameText_len HBB.out.symm
    go_wp2_with fail
    refine (HT.out).mono ?_
    rintro e w3 ⟨rfl, hb3⟩
    have HB3 := hid (Below.step HB2.out hb3)
    clear hb3 f0 f1 z1
    go_upto_region 5 with (fail)
    go_loopw [4, 5] (fun ov iv wr => ∃ k : Nat, k ≤ ws.length ∧ iv = .int .i64 k ∧ ov = .string (bs (Li.title sc ++ 58 :: Li.joinW (ws.take k))) ∧ Hid (Below W1.heap.size W1 wr)) (fun _ iv _ => ws.length - (RowKit.intOf iv).toNat)
    case atStart => exact ⟨0, Nat.zero_le _, rfl, rfl, HB3.out⟩
    case round =>
      obtain ⟨k, hk, rfl, rfl, HR⟩ := hrel
      obtain ⟨f0, f1, z1⟩ := HC.out wr HR.out
      by_cases hlt : k < ws.length
      · obtain ⟨x, hx⟩ : ∃ x, ws[k]? = some x := ⟨_, List.getElem?_eq_getElem hlt⟩
        obtain ⟨g, o, rfl, hr⟩ : ∃ g o, va = some ⟨g, o, none⟩ ∧ RowOf wr g o 1 strC ws := by
          obtain ⟨a', cap', ev, -, -, hr⟩ := (HSL.out.below HB1.out).below HR.out
          cases ev
          exact hr (by omega)
        have e0 := hr.2 k x hx 0 _ rfl
        have hg := hr.1
        have hk0 : (0 : Int) ≤ (k : Int) := by omega
        have hk1 : (k : Int) < (ws.length : Int) := by omega
        rw [Nat.add_zero, Nat.mul_one] at e0
        have hst := Li.joinW_step hx
        have hlen : (Li.title sc ++ 58 :: Li.joinW (ws.take (k + 1))).length ≤ 160 := by
          obtain ⟨r, hr2⟩ := Li.joinW_take ws (k + 1)
          have h2 := hnl
          unfold Li.nameText at h2
          simp only [hr2, List.length_append, List.length_cons] at h2 ⊢
          omega
        have HST := hid hst
        rw [hst] at hlen
        obtain ⟨y, hy⟩ : ∃ y, y = Li.title sc ++ 58 :: Li.joinW (ws.take k) := ⟨_, rfl⟩
        rw [← hy]
        have HY := hid hy
        have hyl : (bs y).size ≤ 160 := by rw [bs_len, hy]; simp only [List.length_append, List.length_cons] at hlen ⊢; omega
        have hxl : (bs x).size ≤ 160 := by rw [bs_len]; simp only [List.length_append, List.length_cons] at hlen; split at hlen <;> (try simp only [List.length_cons] at hlen) <;> omega
        clear hr hx hst hlen hy
        by_cases h0 : k = 0
        · have g1 : decide (0 < k) = false := decide_eq_false (by omega)
          have H0 := hid h0
          clear h0
          go_wp2_with fail
          go_roundw
          case rel => exact ⟨k + 1, by omega, by go_num, by rw [HST.out, if_pos H0.out, bs_app, HY.out]; simp, HR⟩
          case measure => simp [RowKit.intOf]; omega
        · have g1 : decide (0 < k) = true := decide_eq_true (by omega)
          have H0 := hid h0
          clear h0
          go_wp2_with fail
          go_roundw
          case rel => exact ⟨k + 1, by omega, by go_num, by rw [HST.out, if_neg H0.out]; rw [show (⟨#[32]⟩ : ByteArray) = bs [32] from rfl, bs_app, bs_app, HY.out]; simp, HR⟩
          case measure => simp [RowKit.intOf]; omega
      · have hk1 : ¬ (k : Int) < (ws.length : Int) := by omega
        have HKE := hid (show ws.take k = ws from List.take_of_length_le (by omega))
        go_wp2_with fail
        go_ret2
        exact ⟨by rw [← HBB.out]; simp only [HKE.out]; rfl, Below.step HB1.out HR.out⟩

end Go.Proofs.YtidkmhokolknbaaGreatDoor

namespace Go.Proofs.YtidkmhokolknbaaGreatDoor
open Go.RowKit Go.Lib Go.Maps

theorem rname_any (a : List UInt8) (w : World) (hs : a.length ≤ 5000) : Calls Tryz.prog 59 #[.string (bs a)] w (Gives (.bool (Li.ident a)) w) := by
  refine (name_any (bs a) w (by rw [bs_len]; unfold maxLen; omega)).mono ?_
  rintro e w' ⟨rfl, rfl⟩
  refine ⟨?_, Below.refl _ _⟩
  unfold nameB Li.ident
  rw [bs_len]
  rfl
theorem proper_eq (e : Li.En) : Li.proper e = (e.names.all Li.nmOk && (Li.ident e.id && decide (1 ≤ e.names.length) && decide (e.names.length ≤ 8))) := by
  unfold Li.proper
  rw [Bool.and_comm]
  rfl

set_option maxRecDepth 100000 in
set_option maxHeartbeats 4000000 in
theorem rproper_any (id : List UInt8) (ns : List Li.Nm) (v : Value) (w : World) (h : NmsIn w v ns) (hs : id.length ≤ 5000) : Calls Tryz.prog 23 #[.agg #[.string (bs id), v]] w (Gives (.bool (Li.proper ⟨id, ns⟩)) w) := by
  obtain ⟨l, rfl, hA⟩ := h
  have HA := hid hA
  obtain ⟨va, cap, rfl, k1, k2, -⟩ := hA.sl
  have hwl : l.length ≤ 9223372036854775807 := by unfold maxLen at k2; omega
  obtain ⟨W1, hW1⟩ : ∃ W1, W1 = w.alloc (.cells #[.string (bs id), .slice va l.length cap] 25) := ⟨_, rfl⟩
  have HB1 := hid (show Below w.heap.size w W1 by rw [hW1]; exact (Below.refl _ w).alloc (Nat.le_refl _) _)
  have hd1 : W1.heap[w.heap.size]? = some (.cells #[.string (bs id), .slice va l.length cap] 25 (0, 0)) := by rw [hW1]; exact alloc_new w _
  have HC : Hid (∀ W, Below W1.heap.size W1 W → W.cell? ⟨w.heap.size, 0, none⟩ = some (.string (bs id)) ∧ W.cell? ⟨w.heap.size, 1, none⟩ = some (.slice va l.length cap) ∧ w.heap.size < W.heap.size) := fun W hW => by
    have hd := (hW.block _ (Array.getElem?_eq_some_iff.1 hd1).1).trans hd1
    exact ⟨by simp [World.cell?, hd], by simp [World.cell?, hd], (Array.getElem?_eq_some_iff.1 hd).1⟩
  obtain ⟨f0, f1, z1⟩ := HC.out W1 (Below.refl _ _)
  clear k1 k2 hd1 hA
  go_enter Tryz.func23, Tryz.ntmps23
  go_upto_region 1 with (fail)
  rw [← hW1]
  clear hW1
  go_wp2_with fail
  go_loopw [3] (fun iv wr => ∃ k : Nat, k ≤ l.length ∧ iv = .int .i64 k ∧ Hid (((l.map Prod.fst).take k).all Li.nmOk = true) ∧ Hid (Below W1.heap.size W1 wr)) (fun iv _ => l.length - (RowKit.intOf iv).toNat)
  case atStart => exact ⟨0, Nat.zero_le _, rfl, rfl, Below.refl _ _⟩
  case round =>
    obtain ⟨k, hk, rfl, HK, HR⟩ := hrel
    obtain ⟨d0, d1, zr⟩ := HC.out wr HR.out
    clear f0 f1 z1
    by_cases hlt : k < l.length
    · obtain ⟨q, hq⟩ : ∃ q, l[k]? = some q := ⟨_, List.getElem?_eq_getElem hlt⟩
      have hqf : (l.map Prod.fst)[k]? = some q.1 := by rw [List.getElem?_map, hq]; rfl
      have HAR := hid ((HA.out.below HB1.out).below HR.out)
      have HW' := hid (rvalid_any q.1.script q.1.words q.2 wr (HAR.out.at_ q (List.mem_of_getElem? hq)) (fun x hx => by have := HAR.out.short q (List.mem_of_getElem? hq) x hx; omega))
      obtain ⟨wa, wc, hwv, -⟩ := HAR.out.at_ q (List.mem_of_getElem? hq)
      obtain ⟨g, o, rfl, hr⟩ : ∃ g o, va = some ⟨g, o, none⟩ ∧ RowOf wr g o 2 nmC l := by
        obtain ⟨a', cap', ev, -, -, hr⟩ := HAR.out.sl
        cases ev
        exact hr (by omega)
      have e0 := hr.2 k q hq 0 _ rfl
      have e1 := hr.2 k q hq 1 _ rfl
      have hg := hr.1
      have HXX := hid hqf
      have hk0 : (0 : Int) ≤ (k : Int) := by omega
      have hk1 : (k : Int) < (l.length : Int) := by omega
      rw [Nat.add_zero] at e0
      obtain ⟨⟨sc, ws⟩, u⟩ := q
      simp only at hwv e0 e1 HW' HXX
      subst hwv
      obtain ⟨b, hb⟩ : ∃ b, b = Li.nmOk ⟨sc, ws⟩ := ⟨_, rfl⟩
      rw [← hb] at HW'
      have HBB := hid hb
      clear hr hq hb hqf
      go_wp2_with fail
      refine (HW'.out).mono ?_
      rintro e w9 ⟨rfl, hb9⟩
      have HB9 := hid (Below.step HR.out hb9)
      clear hb9
      cases b with
      | true =>
        have HK2 := hid (allTo_step HXX.out HK.out HBB.out.symm)
        go_wp2_with fail
        go_roundw
        case rel => exact ⟨k + 1, by omega, by go_num, HK2, HB9⟩
        case measure => simp [RowKit.intOf]; omega
      | false =>
        have HE := hid (show Li.proper ⟨id, l.map Prod.fst⟩ = false by rw [proper_eq]; show ((l.map Prod.fst).all _ && _) = false; rw [all_no HXX.out HBB.out.symm]; rfl)
        go_wp2_with fail
        go_ret
        exact ⟨by rw [HE.out]; rfl, Below.step HB1.out HB9.out⟩
    · have hall : (l.map Prod.fst).all Li.nmOk = true := by have := HK.out; rwa [List.take_of_length_le (by rw [List.length_map]; omega)] at this
      have HE := hid (show Li.proper ⟨id, l.map Prod.fst⟩ = (Li.ident id && decide (1 ≤ l.length) && decide (l.length ≤ 8)) by rw [proper_eq]; show ((l.map Prod.fst).all _ && _) = _; rw [hall, Bool.true_and]; simp)
      have hk1 : ¬ (k : Int) < (l.length : Int) := by omega
      have HN := hid (rname_any id wr hs)
      obtain ⟨b, hb⟩ : ∃ b, b = Li.ident id := ⟨_, rfl⟩
      rw [← hb] at HE HN
      clear hall hb
      go_wp2_with fail
      refine (HN.out).mono ?_
      rintro e w9 ⟨rfl, hb9⟩
      have HB9 := hid (Below.step HR.out hb9)
      have HC9 := hid (HC.out w9 HB9.out)
      clear hb9 d0 d1 zr
      obtain ⟨d0, d1, zr⟩ := HC9.out
      cases b with
      | false =>
        go_wp2_with fail
        go_ret
        exact ⟨by rw [HE.out]; rfl, Below.step HB1.out HB9.out⟩
      | true =>
        by_cases h1 : 1 ≤ l.length
        · rw [decide_eq_true h1] at HE
          by_cases h8 : l.length ≤ 8
          · rw [decide_eq_true h8] at HE
            go_wp2_with fail
            go_ret
            exact ⟨by rw [HE.out]; simp; omega, Below.step HB1.out HB9.out⟩
          · rw [decide_eq_false h8] at HE
            go_wp2_with fail
            go_ret
            exact ⟨by rw [HE.out]; simp; omega, Below.step HB1.out HB9.out⟩
        · rw [decide_eq_false h1] at HE
          go_wp2_with fail
          go_ret
          exact ⟨by rw [HE.out]; simp, Below.step HB1.out HB9.out⟩

end Go.Proofs.YtidkmhokolknbaaGreatDoor

namespace Li
theorem find_more : ∀ (a b : List Ls) (i : List UInt8) (j : Nat), find a i = some j → find (a ++ b) i = some j := by
  intro a
  induction a with
  | nil => intro b i j h; cases h
  | cons y a ih =>
    intro b i j h
    rw [List.cons_append]
    unfold find at h ⊢
    split
    · rename_i hy; rw [if_pos hy] at h; exact h
    · rename_i hy
      rw [if_neg hy] at h
      cases hf : find a i with
      | none => rw [hf] at h; cases h
      | some m => rw [hf] at h; rw [ih b i m hf]; exact h
theorem find_new {l : List Ls} {k : Nat} {a : List UInt8} (h : find l a = some k) : a ∉ ids (l.take k) := by
  intro hm
  cases hf : find (l.take k) a with
  | none => exact find_none.1 hf hm
  | some j =>
    have h2 := find_more (l.take k) (l.drop k) a j hf
    rw [List.take_append_drop, h] at h2
    obtain ⟨x, hx, -⟩ := find_some hf
    have := (List.getElem?_eq_some_iff.1 hx).1
    rw [List.length_take] at this
    cases h2
    omega
/-- the first elements are proper -/
def vld (l : List Ls) (k : Nat) : Prop := (l.take k).all elOk = true ∧ (ids (l.take k)).Nodup
theorem vld_step {l : List Ls} {k : Nat} {x : Ls} (hx : l[k]? = some x) (h : vld l k) (he : elOk x = true) (hf : find l x.en.id = some k) : vld l (k + 1) := by
  have ht : l.take (k + 1) = l.take k ++ [x] := by rw [List.take_add_one, hx]; rfl
  unfold vld
  rw [ht]
  refine ⟨by rw [List.all_append, h.1]; simpa using he, ?_⟩
  unfold ids
  rw [List.map_append, List.nodup_append]
  refine ⟨h.2, by simp, ?_⟩
  intro a ha b hb
  simp at hb
  subst hb
  rintro rfl
  exact find_new hf ha
theorem properL_no1 {l : List Ls} {k : Nat} {x : Ls} (hx : l[k]? = some x) (he : elOk x = false) : properL l = false := by
  cases h : properL l with
  | false => rfl
  | true =>
    have := (properL_parts h).1 x (List.mem_of_getElem? hx)
    rw [he] at this; cases this
theorem properL_no2 {l : List Ls} {k : Nat} {x : Ls} (hx : l[k]? = some x) (he : find l x.en.id ≠ some k) : properL l = false := by
  cases h : properL l with
  | false => rfl
  | true => exact absurd (find_at (properL_parts h).2.1 hx) he
theorem vld_done {l : List Ls} {k : Nat} (h : vld l k) (hk : l.length ≤ k) : properL l = decide (l.length ≤ 400) := by
  unfold vld at h
  rw [List.take_of_length_le hk] at h
  unfold properL
  rw [h.1, decide_eq_true h.2]
  simp
theorem elOk_eq (id : List UInt8) (ns : List Nm) (f t : Int) (b : Bool) : elOk ⟨⟨id, ns⟩, f, t, b⟩ = (proper ⟨id, ns⟩ && inst f && (decide (t = -1) || (inst t && decide (f < t)))) := rfl
end Li
namespace Go.Proofs.YtidkmhokolknbaaGreatDoor
open Go.RowKit Go.Lib Go.Maps

theorem findI_some {l : List Li.Ls} {a : List UInt8} {k : Nat} (h : findI l a = (k : Int)) : Li.find l a = some k := by
  unfold findI at h
  cases hf : Li.find l a with
  | none => rw [hf] at h; simp at h
  | some j => rw [hf] at h; simp at h; rw [show j = k by omega]

set_option maxRecDepth 100000 in
set_option maxHeartbeats 8000000 in
theorem rvalidL_any (ps : List (Li.Ls × Value)) (v : Value) (w : World) (h : LssAt w v ps) : Calls Tryz.prog 39 #[v] w (Gives (.bool (Li.properL (ps.map Prod.fst))) w) := by
  have HL := hid h
  obtain ⟨va, cap, rfl, k1, k2, -⟩ := h.sl
  have hwl : ps.length ≤ 9223372036854775807 := by unfold maxLen at k2; omega
  clear k1 k2 h
  go_enter Tryz.func39, Tryz.ntmps39
  go_wp2_with fail
  go_loopw [3] (fun iv wr => ∃ k : Nat, k ≤ ps.length ∧ iv = .int .i64 k ∧ Hid (Li.vld (ps.map Prod.fst) k) ∧ Hid (Below w.heap.size w wr)) (fun iv _ => ps.length - (RowKit.intOf iv).toNat)
  case atStart => exact ⟨0, Nat.zero_le _, rfl, ⟨rfl, List.nodup_nil⟩, Below.refl _ _⟩
  case round =>
    obtain ⟨k, hk, rfl, HK, HR⟩ := hrel
    by_cases hlt : k < ps.length
    · obtain ⟨y, hy⟩ : ∃ y, ps[k]? = some y := ⟨_, List.getElem?_eq_getElem hlt⟩
      have HLR := hid (HL.out.below HR.out)
      obtain ⟨g6, o6, rfl, hr6⟩ : ∃ g o, va = some ⟨g, o, none⟩ ∧ RowOf wr g o 5 lsC ps := by
        obtain ⟨a', cap', ev, -, -, hr⟩ := HLR.out.sl
        cases ev
        exact hr (by omega)
      have HQ6 := hid (HLR.out.nm y (List.mem_of_getElem? hy))
      have hil := HLR.out.id y (List.mem_of_getElem? hy)
      have HXX := hid (show (ps.map Prod.fst)[k]? = some y.1 by rw [List.getElem?_map, hy]; rfl)
      have hc6 := hr6.2 k _ hy
      have e60 := hc6 0 _ rfl
      have e61 := hc6 1 _ rfl
      have e62 := hc6 2 _ rfl
      have e63 := hc6 3 _ rfl
      have e64 := hc6 4 _ rfl
      have hz6 := hr6.1
      obtain ⟨⟨⟨i6, n6⟩, f6, t6, b6⟩, u6⟩ := y
      obtain ⟨xa, xc, hu6⟩ := HQ6.out.slice
      simp only at hu6 e60 e61 e62 e63 e64 HXX hil HQ6
      subst hu6
      rw [Nat.add_zero] at e60
      have hk0 : (0 : Int) ≤ (k : Int) := by omega
      have hk1 : (k : Int) < (ps.length : Int) := by omega
      clear hc6 hr6 hy
      obtain ⟨W5, hW5⟩ : ∃ W5, W5 = wr.alloc (.cells #[.string (bs i6), .slice xa n6.length xc, .int .i64 f6, .int .i64 t6, .bool b6] 50) := ⟨_, rfl⟩
      have HB5 := hid (show Below wr.heap.size wr W5 by rw [hW5]; exact (Below.refl _ wr).alloc (Nat.le_refl _) _)
      have hd5 : W5.heap[wr.heap.size]? = some (.cells #[.string (bs i6), .slice xa n6.length xc, .int .i64 f6, .int .i64 t6, .bool b6] 50 (0, 0)) := by rw [hW5]; exact alloc_new wr _
      have HC : Hid (∀ W, Below W5.heap.size W5 W → W.cell? ⟨wr.heap.size, 0, none⟩ = some (.string (bs i6)) ∧ W.cell? ⟨wr.heap.size, 1, none⟩ = some (.slice xa n6.length xc) ∧ W.cell? ⟨wr.heap.size, 2, none⟩ = some (.int .i64 f6) ∧ W.cell? ⟨wr.heap.size, 3, none⟩ = some (.int .i64 t6) ∧ wr.heap.size < W.heap.size) := fun W hW => by
        have hd := (hW.block _ (Array.getElem?_eq_some_iff.1 hd5).1).trans hd5
        exact ⟨by simp [World.cell?, hd], by simp [World.cell?, hd], by simp [World.cell?, hd], by simp [World.cell?, hd], (Array.getElem?_eq_some_iff.1 hd).1⟩
      obtain ⟨d0, d1, d2, d3, zd⟩ := HC.out W5 (Below.refl _ _)
      have HP := hid (rproper_any i6 n6 _ W5 (HQ6.out.below HB5.out) hil)
      obtain ⟨pb, hpb⟩ : ∃ b, b = Li.proper ⟨i6, n6⟩ := ⟨_, rfl⟩
      rw [← hpb] at HP
      have HPB := hid hpb
      clear hpb hd5
      go_upto_region 5 with (fail)
      rw [← hW5]
      clear hW5 e60 e61 e62 e63 e64
      go_wp2_with fail
      refine (HP.out).mono ?_
      rintro e w9 ⟨rfl, hb9⟩
      have HBX := hid (Below.step HB5.out hb9)
      have HC9 := hid (HC.out w9 hb9)
      clear hb9 d0 d1 d2 d3 zd
      obtain ⟨d0, d1, d2, d3, zd⟩ := HC9.out
      have HI1 := hid (rIs_any f6 w9)
      have HI2 := hid (rIs_any t6 w9)
      obtain ⟨ib, hib⟩ : ∃ b, b = Li.inst f6 := ⟨_, rfl⟩
      obtain ⟨jb, hjb⟩ : ∃ b, b = Li.inst t6 := ⟨_, rfl⟩
      rw [← hib] at HI1
      rw [← hjb] at HI2
      have HEL := hid (Li.elOk_eq i6 n6 f6 t6 b6)
      rw [← HPB.out, ← hib, ← hjb] at HEL
      clear hib hjb
      cases pb with
      | false =>
        have HE := hid (Li.properL_no1 HXX.out (by rw [HEL.out]; rfl))
        go_wp2_with fail
        go_ret
        exact ⟨by rw [HE.out]; rfl, Below.step HR.out HBX.out⟩
      | true =>
        go_wp2_with fail
        refine (HI1.out).mono ?_
        rintro e wx ⟨rfl, rfl⟩
        cases ib with
        | false =>
          have HE := hid (Li.properL_no1 HXX.out (by rw [HEL.out]; rfl))
          go_wp2_with fail
          go_ret
          exact ⟨by rw [HE.out]; rfl, Below.step HR.out HBX.out⟩
        | true =>
          by_cases ht : t6 = -1
          · have g1 : (t6 != -1) = false := by rw [ht]; rfl
            have HT := hid ht
            clear ht
            have HF := hid (rFind_any ps _ i6 _ (HLR.out.sl.below HBX.out))
            obtain ⟨fi, hfi⟩ : ∃ fi, fi = findI (ps.map Prod.fst) i6 := ⟨_, rfl⟩
            rw [← hfi] at HF
            have HFI := hid hfi
            clear hfi
            by_cases hfk : fi = (k : Int)
            · have g9 : (fi != (k : Int)) = false := by rw [hfk]; simp
              have HFD := hid (findI_some (HFI.out.symm.trans hfk))
              clear hfk
              go_wp2_with fail
              refine (HF.out).mono ?_
              rintro e wf ⟨rfl, rfl⟩
              have HK2 := hid (Li.vld_step HXX.out HK.out (by rw [HEL.out, decide_eq_true HT.out]; rfl) HFD.out)
              go_wp2_with fail
              go_roundw
              case rel => exact ⟨k + 1, by omega, by go_num, HK2, Below.step HR.out HBX.out⟩
              case measure => simp [RowKit.intOf]; omega
            · have g9 : (fi != (k : Int)) = true := by rw [bne_iff_ne]; exact hfk
              have HE := hid (Li.properL_no2 HXX.out (fun h => hfk (HFI.out.trans (by unfold findI; rw [show Li.find (ps.map Prod.fst) i6 = some k from h]))))
              clear hfk
              go_wp2_with fail
              refine (HF.out).mono ?_
              rintro e wf ⟨rfl, rfl⟩
              go_wp2_with fail
              go_ret
              exact ⟨by rw [HE.out]; rfl, Below.step HR.out HBX.out⟩
          · have g1 : (t6 != -1) = true := by rw [bne_iff_ne]; exact ht
            have HT := hid ht
            clear ht
            go_wp2_with fail
            refine (HI2.out).mono ?_
            rintro e wx ⟨rfl, rfl⟩
            cases jb with
            | false =>
              have HE := hid (Li.properL_no1 HXX.out (by rw [HEL.out, decide_eq_false HT.out]; rfl))
              go_wp2_with fail
              go_ret
              exact ⟨by rw [HE.out]; rfl, Below.step HR.out HBX.out⟩
            | true =>
              by_cases hft : f6 < t6
              · have g2 : decide (t6 ≤ f6) = false := decide_eq_false (by omega)
                have HFT := hid hft
                clear hft
                have HF := hid (rFind_any ps _ i6 _ (HLR.out.sl.below HBX.out))
                obtain ⟨fi, hfi⟩ : ∃ fi, fi = findI (ps.map Prod.fst) i6 := ⟨_, rfl⟩
                rw [← hfi] at HF
                have HFI := hid hfi
                clear hfi
                by_cases hfk : fi = (k : Int)
                · have g9 : (fi != (k : Int)) = false := by rw [hfk]; simp
                  have HFD := hid (findI_some (HFI.out.symm.trans hfk))
                  clear hfk
                  go_wp2_with fail
                  refine (HF.out).mono ?_
                  rintro e wf ⟨rfl, rfl⟩
                  have HK2 := hid (Li.vld_step HXX.out HK.out (by rw [HEL.out, decide_eq_false HT.out, decide_eq_true HFT.out]; rfl) HFD.out)
                  go_wp2_with fail
                  go_roundw
                  case rel => exact ⟨k + 1, by omega, by go_num, HK2, Below.step HR.out HBX.out⟩
                  case measure => simp [RowKit.intOf]; omega
                · have g9 : (fi != (k : Int)) = true := by rw [bne_iff_ne]; exact hfk
                  have HE := hid (Li.properL_no2 HXX.out (fun h => hfk (HFI.out.trans (by unfold findI; rw [show Li.find (ps.map Prod.fst) i6 = some k from h]))))
                  clear hfk
                  go_wp2_with fail
                  refine (HF.out).mono ?_
                  rintro e wf ⟨rfl, rfl⟩
                  go_wp2_with fail
                  go_ret
                  exact ⟨by rw [HE.out]; rfl, Below.step HR.out HBX.out⟩
              · have g2 : decide (t6 ≤ f6) = true := decide_eq_true (by omega)
                have HFT := hid hft
                clear hft
                have HE := hid (Li.properL_no1 HXX.out (by rw [HEL.out, decide_eq_false HT.out, decide_eq_false HFT.out]; rfl))
                go_wp2_with fail
                go_ret
                exact ⟨by rw [HE.out]; rfl, Below.step HR.out HBX.out⟩
    · have hk1 : ¬ (k : Int) < (ps.length : Int) := by omega
      have HE := hid (Li.vld_done HK.out (by rw [List.length_map]; omega))
      rw [List.length_map] at HE
      by_cases h4 : ps.length ≤ 400
      · rw [decide_eq_true h4] at HE
        go_wp2_with fail
        go_ret
        exact ⟨by rw [HE.out]; simp; omega, HR.out⟩
      · rw [decide_eq_false h4] at HE
        go_wp2_with fail
        go_ret
        exact ⟨by rw [HE.out]; simp; omega, HR.out⟩

end Go.Proofs.YtidkmhokolknbaaGreatDoor

namespace Li
theorem formed_ref (c : Ch) {ib zb lb sb pb tb a0 : Bool} (h1 : ib = ident c.id) (h2 : zb = decide (c.en.id = [])) (h3 : lb = decide (c.en.names = [])) (h4 : sb = decide (c.en.id = c.id)) (h5 : pb = proper c.en) (h6 : tb = inst c.at_) (h7 : a0 = decide (c.at_ = 0)) :
    formed c = (ib && (if c.kind = 1 then ((sb && pb) && tb) else if c.kind = 2 then ((zb && lb) && tb) else if c.kind = 3 then ((sb && pb) && a0) else if c.kind = 4 then ((zb && lb) && a0) else false)) := by
  subst h1 h2 h3 h4 h5 h6 h7
  unfold formed withEntry dated
  by_cases k1 : c.kind = 1
  · simp [k1, Bool.and_assoc]
  · by_cases k2 : c.kind = 2
    · simp [k2, Bool.and_assoc]
    · by_cases k3 : c.kind = 3
      · simp [k3, Bool.and_assoc]
      · by_cases k4 : c.kind = 4
        · simp [k4, Bool.and_assoc]
        · have : (decide (1 ≤ c.kind) && decide (c.kind ≤ 4)) = false := by
            rw [Bool.and_eq_false_iff]
            by_cases h : 1 ≤ c.kind
            · right; exact decide_eq_false (by omega)
            · left; exact decide_eq_false h
          rw [Bool.and_assoc (ident c.id), this]
          simp [k1, k2, k3, k4]
end Li
namespace Go.Proofs.YtidkmhokolknbaaGreatDoor
open Go.RowKit Go.Lib Go.Maps

set_option maxRecDepth 100000 in
set_option maxHeartbeats 16000000 in
theorem rformed_any (c : Li.Ch) (u : Value) (w : World) (h : NmsIn w u c.en.names) (hs : c.id.length ≤ 5000) (hs2 : c.en.id.length ≤ 5000) : Calls Tryz.prog 40 #[.agg #[.int .i64 c.kind, .string (bs c.id), .string (bs c.en.id), u, .int .i64 c.at_]] w (Gives (.bool (Li.formed c)) w) := by
  have HN := hid h
  obtain ⟨na, nc, rfl⟩ := h.slice
  obtain ⟨W1, hW1⟩ : ∃ W1, W1 = w.alloc (.cells #[.int .i64 c.kind, .string (bs c.id), .string (bs c.en.id), .slice na c.en.names.length nc, .int .i64 c.at_] 27) := ⟨_, rfl⟩
  have HX := hid (ChBox.new hW1)
  have HB1 := hid HX.out.below
  have HC : Hid (∀ W, Below W1.heap.size W1 W → W.cell? ⟨w.heap.size, 0, none⟩ = some (.int .i64 c.kind) ∧ W.cell? ⟨w.heap.size, 1, none⟩ = some (.string (bs c.id)) ∧ W.cell? ⟨w.heap.size, 2, none⟩ = some (.string (bs c.en.id)) ∧ W.cell? ⟨w.heap.size, 3, none⟩ = some (.slice na c.en.names.length nc) ∧ W.cell? ⟨w.heap.size, 4, none⟩ = some (.int .i64 c.at_) ∧ w.heap.size < W.heap.size) := fun W hW => by
    obtain ⟨c0, c1, c2, c3, c4, z1, -⟩ := HX.out.step hW
    exact ⟨c0, c1, c2, c3, c4, z1⟩
  have HI := hid (rname_any c.id W1 hs)
  obtain ⟨ib, hib⟩ : ∃ b, b = Li.ident c.id := ⟨_, rfl⟩
  obtain ⟨zb, hzb⟩ : ∃ b, b = decide (c.en.id = []) := ⟨_, rfl⟩
  obtain ⟨lb, hlb⟩ : ∃ b, b = decide (c.en.names = []) := ⟨_, rfl⟩
  obtain ⟨sb, hsb⟩ : ∃ b, b = decide (c.en.id = c.id) := ⟨_, rfl⟩
  obtain ⟨pb, hpb⟩ : ∃ b, b = Li.proper c.en := ⟨_, rfl⟩
  obtain ⟨tb, htb⟩ : ∃ b, b = Li.inst c.at_ := ⟨_, rfl⟩
  obtain ⟨a0, ha0⟩ : ∃ b, b = decide (c.at_ = 0) := ⟨_, rfl⟩
  have HP := hid (Li.formed_ref c hib hzb hlb hsb hpb htb ha0)
  have hz := (name_beq c.en.id []).trans hzb.symm
  rw [show bs [] = ⟨#[]⟩ from rfl] at hz
  have hl : ((c.en.names.length : Int) == 0) = lb := by
    rw [hlb]
    cases c.en.names with
    | nil => rfl
    | cons a l => simp; omega
  have hss := (name_beq c.en.id c.id).trans hsb.symm
  have hat : (c.at_ == 0) = a0 := ha0.symm
  have HPB := hid hpb
  have HIB := hid hib
  have HTB := hid htb
  rw [← hib] at HI
  obtain ⟨c0, c1, c2, c3, c4, z1⟩ := HC.out W1 (Below.refl _ _)
  clear hib hzb hlb hsb hpb htb ha0 h
  go_enter Tryz.func40, Tryz.ntmps40
  go_upto_region 1 with (fail)
  rw [← hW1]
  clear hW1
  go_wp2_with fail
  refine (HI.out).mono ?_
  rintro e w2 ⟨rfl, hb2⟩
  have HB2 := hid hb2
  clear c0 c1 c2 c3 c4 z1 hb2
  obtain ⟨c0, c1, c2, c3, c4, z1⟩ := HC.out w2 HB2.out
  cases ib with
  | false =>
    go_wp2_with fail
    go_ret
    exact ⟨by rw [HP.out]; rfl, Below.step HB1.out HB2.out⟩
  | true =>
    have hidn : ¬ (bs c.id).toList = [] := by
      intro h
      have h2 := name_beq c.id []
      rw [h] at h2
      have h3 : c.id = [] := by
        apply of_decide_eq_true
        rw [← h2, show bs [] = ⟨#[]⟩ from rfl]
        simp
      have h4 := HIB.out
      rw [h3] at h4
      exact absurd h4 (by decide)
    cases zb with
    | true =>
      have hz' : (bs c.en.id).toList = [] := by simpa using hz
      have hsf : sb = false := by
        rw [← hss]
        rw [hz']
        cases h : (bs c.id).toList with
        | nil => exact absurd h hidn
        | cons a l => rfl
      subst hsf
      clear hz hss
      cases lb with
      | true =>
        have HBX := HB2
        have HBB := hid (Below.step HB1.out HBX.out)
        go_upto_region 5 with (fail)
        clear hz' hidn hl c0 c1 c2 c3 c4 z1
        obtain ⟨c0, c1, c2, c3, c4, z1⟩ := HC.out _ HBX.out
        have HIS : Hid (∀ W, Calls Tryz.prog 61 #[.int .i64 c.at_] W (Same (.bool tb) W)) := fun W => by
          have := rIs_any c.at_ W
          rwa [← HTB.out] at this
        by_cases hk1 : c.kind = 1
        · have q1 : (c.kind == 1) = true := by rw [hk1]; rfl
          have HK := hid hk1
          clear hk1
          go_wp2_with fail
          go_ret
          exact ⟨by rw [HP.out, if_pos HK.out]; rfl, HBB.out⟩
        have q1 : (c.kind == 1) = false := beq_eq_false_iff_ne.2 hk1
        have N1 := hid hk1
        clear hk1
        by_cases hk2 : c.kind = 2
        · have q2 : (c.kind == 2) = true := by rw [hk2]; rfl
          have HK := hid hk2
          clear hk2
          go_wp2_with fail
          refine (HIS.out _).mono ?_
          rintro e wx ⟨rfl, rfl⟩
          go_wp2_with fail
          go_ret
          exact ⟨by rw [HP.out, if_neg N1.out, if_pos HK.out]; rfl, HBB.out⟩
        have q2 : (c.kind == 2) = false := beq_eq_false_iff_ne.2 hk2
        have N2 := hid hk2
        clear hk2
        by_cases hk3 : c.kind = 3
        · have q3 : (c.kind == 3) = true := by rw [hk3]; rfl
          have HK := hid hk3
          clear hk3
          go_wp2_with fail
          go_ret
          exact ⟨by rw [HP.out, if_neg N1.out, if_neg N2.out, if_pos HK.out]; rfl, HBB.out⟩
        have q3 : (c.kind == 3) = false := beq_eq_false_iff_ne.2 hk3
        have N3 := hid hk3
        clear hk3
        by_cases hk4 : c.kind = 4
        · have q4 : (c.kind == 4) = true := by rw [hk4]; rfl
          have HK := hid hk4
          clear hk4
          cases a0 with
          | true =>
            go_wp2_with fail
            go_ret
            exact ⟨by rw [HP.out, if_neg N1.out, if_neg N2.out, if_neg N3.out, if_pos HK.out]; rfl, HBB.out⟩
          | false =>
            go_wp2_with fail
            go_ret
            exact ⟨by rw [HP.out, if_neg N1.out, if_neg N2.out, if_neg N3.out, if_pos HK.out]; rfl, HBB.out⟩
        have q4 : (c.kind == 4) = false := beq_eq_false_iff_ne.2 hk4
        have N4 := hid hk4
        clear hk4
        go_wp2_with fail
        go_ret
        exact ⟨by rw [HP.out, if_neg N1.out, if_neg N2.out, if_neg N3.out, if_neg N4.out]; rfl, HBB.out⟩
      | false =>
        have HBX := HB2
        have HBB := hid (Below.step HB1.out HBX.out)
        go_upto_region 5 with (fail)
        clear hz' hidn hl c0 c1 c2 c3 c4 z1
        obtain ⟨c0, c1, c2, c3, c4, z1⟩ := HC.out _ HBX.out
        have HIS : Hid (∀ W, Calls Tryz.prog 61 #[.int .i64 c.at_] W (Same (.bool tb) W)) := fun W => by
          have := rIs_any c.at_ W
          rwa [← HTB.out] at this
        by_cases hk1 : c.kind = 1
        · have q1 : (c.kind == 1) = true := by rw [hk1]; rfl
          have HK := hid hk1
          clear hk1
          go_wp2_with fail
          go_ret
          exact ⟨by rw [HP.out, if_pos HK.out]; rfl, HBB.out⟩
        have q1 : (c.kind == 1) = false := beq_eq_false_iff_ne.2 hk1
        have N1 := hid hk1
        clear hk1
        by_cases hk2 : c.kind = 2
        · have q2 : (c.kind == 2) = true := by rw [hk2]; rfl
          have HK := hid hk2
          clear hk2
          go_wp2_with fail
          go_ret
          exact ⟨by rw [HP.out, if_neg N1.out, if_pos HK.out]; rfl, HBB.out⟩
        have q2 : (c.kind == 2) = false := beq_eq_false_iff_ne.2 hk2
        have N2 := hid hk2
        clear hk2
        by_cases hk3 : c.kind = 3
        · have q3 : (c.kind == 3) = true := by rw [hk3]; rfl
          have HK := hid hk3
          clear hk3
          go_wp2_with fail
          go_ret
          exact ⟨by rw [HP.out, if_neg N1.out, if_neg N2.out, if_pos HK.out]; rfl, HBB.out⟩
        have q3 : (c.kind == 3) = false := beq_eq_false_iff_ne.2 hk3
        have N3 := hid hk3
        clear hk3
        by_cases hk4 : c.kind = 4
        · have q4 : (c.kind == 4) = true := by rw [hk4]; rfl
          have HK := hid hk4
          clear hk4
          go_wp2_with fail
          go_ret
          exact ⟨by rw [HP.out, if_neg N1.out, if_neg N2.out, if_neg N3.out, if_pos HK.out]; rfl, HBB.out⟩
        have q4 : (c.kind == 4) = false := beq_eq_false_iff_ne.2 hk4
        have N4 := hid hk4
        clear hk4
        go_wp2_with fail
        go_ret
        exact ⟨by rw [HP.out, if_neg N1.out, if_neg N2.out, if_neg N3.out, if_neg N4.out]; rfl, HBB.out⟩
    | false =>
      have hz' : ¬ (bs c.en.id).toList = [] := by simpa using hz
      clear hz hidn
      go_upto_region 4 with (fail)
      clear hz' hl
      clear c0 c1 c2 c3 c4 z1
      cases sb with
      | false =>
        have HBX := HB2
        have HBB := hid (Below.step HB1.out HBX.out)
        obtain ⟨c0, c1, c2, c3, c4, z1⟩ := HC.out _ HBX.out
        have HIS : Hid (∀ W, Calls Tryz.prog 61 #[.int .i64 c.at_] W (Same (.bool tb) W)) := fun W => by
          have := rIs_any c.at_ W
          rwa [← HTB.out] at this
        by_cases hk1 : c.kind = 1
        · have q1 : (c.kind == 1) = true := by rw [hk1]; rfl
          have HK := hid hk1
          clear hk1
          go_wp2_with fail
          go_ret
          exact ⟨by rw [HP.out, if_pos HK.out]; rfl, HBB.out⟩
        have q1 : (c.kind == 1) = false := beq_eq_false_iff_ne.2 hk1
        have N1 := hid hk1
        clear hk1
        by_cases hk2 : c.kind = 2
        · have q2 : (c.kind == 2) = true := by rw [hk2]; rfl
          have HK := hid hk2
          clear hk2
          go_wp2_with fail
          go_ret
          exact ⟨by rw [HP.out, if_neg N1.out, if_pos HK.out]; rfl, HBB.out⟩
        have q2 : (c.kind == 2) = false := beq_eq_false_iff_ne.2 hk2
        have N2 := hid hk2
        clear hk2
        by_cases hk3 : c.kind = 3
        · have q3 : (c.kind == 3) = true := by rw [hk3]; rfl
          have HK := hid hk3
          clear hk3
          go_wp2_with fail
          go_ret
          exact ⟨by rw [HP.out, if_neg N1.out, if_neg N2.out, if_pos HK.out]; rfl, HBB.out⟩
        have q3 : (c.kind == 3) = false := beq_eq_false_iff_ne.2 hk3
        have N3 := hid hk3
        clear hk3
        by_cases hk4 : c.kind = 4
        · have q4 : (c.kind == 4) = true := by rw [hk4]; rfl
          have HK := hid hk4
          clear hk4
          go_wp2_with fail
          go_ret
          exact ⟨by rw [HP.out, if_neg N1.out, if_neg N2.out, if_neg N3.out, if_pos HK.out]; rfl, HBB.out⟩
        have q4 : (c.kind == 4) = false := beq_eq_false_iff_ne.2 hk4
        have N4 := hid hk4
        clear hk4
        go_wp2_with fail
        go_ret
        exact ⟨by rw [HP.out, if_neg N1.out, if_neg N2.out, if_neg N3.out, if_neg N4.out]; rfl, HBB.out⟩
      | true =>
        obtain ⟨c0, c1, c2, c3, c4, z1⟩ := HC.out _ HB2.out
        have HPR := hid (rproper_any c.en.id c.en.names _ w2 (HN.out.below (Below.step HB1.out HB2.out)) hs2)
        rw [show Li.proper ⟨c.en.id, c.en.names⟩ = pb from HPB.out.symm] at HPR
        go_wp2_with fail
        refine (HPR.out).mono ?_
        rintro e w3 ⟨rfl, hb3⟩
        have HBX := hid (Below.step HB2.out hb3)
        have HBB := hid (Below.step HB1.out HBX.out)
        clear hb3 c0 c1 c2 c3 c4 z1
        cases pb with
        | true =>
          obtain ⟨c0, c1, c2, c3, c4, z1⟩ := HC.out _ HBX.out
          have HIS : Hid (∀ W, Calls Tryz.prog 61 #[.int .i64 c.at_] W (Same (.bool tb) W)) := fun W => by
            have := rIs_any c.at_ W
            rwa [← HTB.out] at this
          by_cases hk1 : c.kind = 1
          · have q1 : (c.kind == 1) = true := by rw [hk1]; rfl
            have HK := hid hk1
            clear hk1
            go_wp2_with fail
            refine (HIS.out _).mono ?_
            rintro e wx ⟨rfl, rfl⟩
            go_wp2_with fail
            go_ret
            exact ⟨by rw [HP.out, if_pos HK.out]; rfl, HBB.out⟩
          have q1 : (c.kind == 1) = false := beq_eq_false_iff_ne.2 hk1
          have N1 := hid hk1
          clear hk1
          by_cases hk2 : c.kind = 2
          · have q2 : (c.kind == 2) = true := by rw [hk2]; rfl
            have HK := hid hk2
            clear hk2
            go_wp2_with fail
            go_ret
            exact ⟨by rw [HP.out, if_neg N1.out, if_pos HK.out]; rfl, HBB.out⟩
          have q2 : (c.kind == 2) = false := beq_eq_false_iff_ne.2 hk2
          have N2 := hid hk2
          clear hk2
          by_cases hk3 : c.kind = 3
          · have q3 : (c.kind == 3) = true := by rw [hk3]; rfl
            have HK := hid hk3
            clear hk3
            cases a0 with
            | true =>
              go_wp2_with fail
              go_ret
              exact ⟨by rw [HP.out, if_neg N1.out, if_neg N2.out, if_pos HK.out]; rfl, HBB.out⟩
            | false =>
              go_wp2_with fail
              go_ret
              exact ⟨by rw [HP.out, if_neg N1.out, if_neg N2.out, if_pos HK.out]; rfl, HBB.out⟩
          have q3 : (c.kind == 3) = false := beq_eq_false_iff_ne.2 hk3
          have N3 := hid hk3
          clear hk3
          by_cases hk4 : c.kind = 4
          · have q4 : (c.kind == 4) = true := by rw [hk4]; rfl
            have HK := hid hk4
            clear hk4
            go_wp2_with fail
            go_ret
            exact ⟨by rw [HP.out, if_neg N1.out, if_neg N2.out, if_neg N3.out, if_pos HK.out]; rfl, HBB.out⟩
          have q4 : (c.kind == 4) = false := beq_eq_false_iff_ne.2 hk4
          have N4 := hid hk4
          clear hk4
          go_wp2_with fail
          go_ret
          exact ⟨by rw [HP.out, if_neg N1.out, if_neg N2.out, if_neg N3.out, if_neg N4.out]; rfl, HBB.out⟩
        | false =>
          obtain ⟨c0, c1, c2, c3, c4, z1⟩ := HC.out _ HBX.out
          have HIS : Hid (∀ W, Calls Tryz.prog 61 #[.int .i64 c.at_] W (Same (.bool tb) W)) := fun W => by
            have := rIs_any c.at_ W
            rwa [← HTB.out] at this
          by_cases hk1 : c.kind = 1
          · have q1 : (c.kind == 1) = true := by rw [hk1]; rfl
            have HK := hid hk1
            clear hk1
            go_wp2_with fail
            go_ret
            exact ⟨by rw [HP.out, if_pos HK.out]; rfl, HBB.out⟩
          have q1 : (c.kind == 1) = false := beq_eq_false_iff_ne.2 hk1
          have N1 := hid hk1
          clear hk1
          by_cases hk2 : c.kind = 2
          · have q2 : (c.kind == 2) = true := by rw [hk2]; rfl
            have HK := hid hk2
            clear hk2
            go_wp2_with fail
            go_ret
            exact ⟨by rw [HP.out, if_neg N1.out, if_pos HK.out]; rfl, HBB.out⟩
          have q2 : (c.kind == 2) = false := beq_eq_false_iff_ne.2 hk2
          have N2 := hid hk2
          clear hk2
          by_cases hk3 : c.kind = 3
          · have q3 : (c.kind == 3) = true := by rw [hk3]; rfl
            have HK := hid hk3
            clear hk3
            go_wp2_with fail
            go_ret
            exact ⟨by rw [HP.out, if_neg N1.out, if_neg N2.out, if_pos HK.out]; rfl, HBB.out⟩
          have q3 : (c.kind == 3) = false := beq_eq_false_iff_ne.2 hk3
          have N3 := hid hk3
          clear hk3
          by_cases hk4 : c.kind = 4
          · have q4 : (c.kind == 4) = true := by rw [hk4]; rfl
            have HK := hid hk4
            clear hk4
            go_wp2_with fail
            go_ret
            exact ⟨by rw [HP.out, if_neg N1.out, if_neg N2.out, if_neg N3.out, if_pos HK.out]; rfl, HBB.out⟩
          have q4 : (c.kind == 4) = false := beq_eq_false_iff_ne.2 hk4
          have N4 := hid hk4
          clear hk4
          go_wp2_with fail
          go_ret
          exact ⟨by rw [HP.out, if_neg N1.out, if_neg N2.out, if_neg N3.out, if_neg N4.out]; rfl, HBB.out⟩

end Go.Proofs.YtidkmhokolknbaaGreatDoor
