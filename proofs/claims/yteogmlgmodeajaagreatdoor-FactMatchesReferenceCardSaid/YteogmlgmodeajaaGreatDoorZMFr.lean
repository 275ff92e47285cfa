/-
  Several texts in one: ZFr1, ZFr2, ZFr3, ZFr4. Conditions: as each law says.
-/
import Derived.Test.YteogmlgmodeajaaGreatDoorZFa15
import Derived.Test.YteogmlgmodeajaaGreatDoorZMFaP
import Derived.Test.YteogmlgmodeajaaGreatDoorZLexRefD
import Derived.Deep.RegionHeld3
import Derived.Deep.CutRange
namespace Go.Proofs.YteogmlgmodeajaaGreatDoor
open Go.RowKit Go.Lib Go.Maps

/-- is this a name? -/
def nameB (t : ByteArray) : Bool := t.data.toList.all Lx.isWord && decide (0 < t.size) && decide (t.size ≤ 24) && t.data.toList.head?.any Lx.isLetter
theorem nameB_nm (a : List UInt8) : nameB (bs a) = Fa.nm a := by
  unfold nameB Fa.nm
  rw [bs_size]
  rfl
theorem all_snoc {t : ByteArray} {k : Nat} (hlt : k < t.size) : (t.data.toList.take (k + 1)).all Lx.isWord = ((t.data.toList.take k).all Lx.isWord && Lx.isWord t[k]) := by
  rw [List.take_succ_eq_append_getElem (by simpa using hlt), List.all_append]
  simp
  rfl
theorem head_at {t : ByteArray} (h : 0 < t.size) : t.data.toList.head? = some t[0] := by
  have h1 : 0 < t.data.toList.length := by simpa using h
  have := Lx.head_drop h1
  rw [List.drop_zero] at this
  exact this

set_option maxRecDepth 100000 in
set_option maxHeartbeats 800000 in
theorem name_any (t : ByteArray) (w : World) (hs : t.size ≤ maxLen) : Calls Tryz.prog 43 #[.string t] w (Same (.bool (nameB t)) w) := by
  unfold maxLen at hs
  go_enter Tryz.func43, Tryz.ntmps43
  go_wp2
  go_loop [3] (fun i => ∃ k : Nat, k ≤ t.size ∧ i = .int .i64 k ∧ Hid ((t.data.toList.take k).all Lx.isWord = true)) (fun i => t.size - (RowKit.intOf i).toNat)
  case atStart => exact ⟨0, Nat.zero_le _, rfl, by simp [Hid]⟩
  case round =>
    obtain ⟨k, hk, rfl, hn⟩ := hrel
    by_cases hlt : k < t.size
    · cases hw : Lx.isWord t[k] with
      | true =>
        have H2 := hid (show (t.data.toList.take (k + 1)).all Lx.isWord = true by rw [all_snoc hlt, hn.out, hw]; rfl)
        go_wp2_with (go_at_call 58; refine (word_any _ _).mono ?_; rintro e w' ⟨rfl, rfl⟩)
        go_round
        case rel => exact ⟨k + 1, by omega, by go_num, H2⟩
        case measure => simp [RowKit.intOf]; omega
      | false =>
        have H2 := hid (show nameB t = false by
          have : t.data.toList.all Lx.isWord = false := by
            rw [Bool.eq_false_iff]
            intro h
            have hm : t[k] ∈ t.data.toList := by
              have e : t[k] = t.data.toList[k]'(by simpa using hlt) := rfl
              rw [e]; exact List.getElem_mem _
            rw [List.all_eq_true.1 h _ hm] at hw
            cases hw
          simp [nameB, this])
        go_wp2_with (go_at_call 58; refine (word_any _ _).mono ?_; rintro e w' ⟨rfl, rfl⟩)
        go_ret
        exact ⟨ret_bool H2.out.symm, rfl⟩
    · have hall := hid (show t.data.toList.all Lx.isWord = true by have := hn.out; rwa [List.take_of_length_le (by simp; omega)] at this)
      by_cases h0 : 0 < t.size
      · by_cases h24 : t.size ≤ 24
        · have H2 := hid (show nameB t = Lx.isLetter t[0] by simp [nameB, hall.out, h0, h24, head_at h0])
          go_wp2_with (go_at_call 59; refine (letter_any _ _).mono ?_; rintro e w' ⟨rfl, rfl⟩)
          go_ret
          exact ⟨ret_bool H2.out.symm, rfl⟩
        · have H2 := hid (show nameB t = false by simp [nameB, h24])
          go_wp2
          go_ret
          exact ⟨ret_bool H2.out.symm, rfl⟩
      · have H2 := hid (show nameB t = false by simp [nameB, h0])
        go_wp2
        go_ret
        exact ⟨ret_bool H2.out.symm, rfl⟩

/-- a value in its cell -/
theorem box_cell {w : World} {t : TypeId} {v : Value} {W : World} (h : W = w.alloc (.cells #[v] t)) : W.cell? ⟨w.heap.size, 0, none⟩ = some v ∧ w.heap.size < W.heap.size ∧ Below w.heap.size w W := by
  subst h
  exact ⟨(One.new w t v).cell, (One.new w t v).lt, below_new w _⟩

set_option maxRecDepth 100000 in
set_option maxHeartbeats 4000000 in
theorem rIndex_any (d : Fa.Dom) (v : Value) (a : List UInt8) (w : World) (h : SlOf w v 4 factC d) : Calls Tryz.prog 17 #[.agg #[v], .string (bs a)] w (Gives (.int .i64 (Fa.idx d a)) w) := by
  obtain ⟨W1, hW1⟩ : ∃ W1, W1 = w.alloc (.cells #[v] 24) := ⟨_, rfl⟩
  obtain ⟨c1, z1, hb1⟩ := box_cell hW1
  have HB := hid hb1
  have HS := hid h
  obtain ⟨va, cap, rfl, k1, k2, -⟩ := h
  have hl1 : d.length ≤ 9223372036854775807 := by unfold maxLen at k2; omega
  clear k1 k2 hb1
  go_enter Tryz.func17, Tryz.ntmps17
  go_upto_region 1 with (fail)
  rw [← hW1]
  clear hW1
  go_wp2_with fail
  go_loop [5] (fun iv => ∃ k : Nat, k ≤ d.length ∧ iv = .int .i64 k ∧ Hid (Fa.idx d a = Fa.idxL (d.drop k) a k)) (fun iv => d.length - (RowKit.intOf iv).toNat)
  case atStart => exact ⟨0, Nat.zero_le _, rfl, rfl⟩
  case round =>
    obtain ⟨k, hk, rfl, HK⟩ := hrel
    by_cases hlt : k < d.length
    · obtain ⟨f, hf⟩ : ∃ f, d[k]? = some f := ⟨_, List.getElem?_eq_getElem hlt⟩
      obtain ⟨g, o, rfl, hg, e0, -, -, -⟩ := fact_cells HS.out hf HB.out
      have hk0 : (0 : Int) ≤ (k : Int) := by omega
      have hk1 : (k : Int) < (d.length : Int) := by omega
      have HX := hid (idxL_drop (a := a) hf)
      have hl := name_beq f.name a
      clear hf
      by_cases hfa : f.name = a
      · rw [decide_eq_true hfa] at hl
        have HE := hid (show Fa.idx d a = (k : Int) by rw [HK.out, HX.out, if_pos hfa])
        clear hfa
        go_wp2_with fail
        go_ret
        exact ⟨by rw [HE.out]; rfl, HB.out⟩
      · rw [decide_eq_false hfa] at hl
        have HE := hid (show Fa.idx d a = Fa.idxL (d.drop (k + 1)) a (k + 1) by rw [HK.out, HX.out, if_neg hfa])
        clear hfa
        go_wp2_with fail
        go_round
        case rel => exact ⟨k + 1, by omega, by go_num, HE⟩
        case measure => simp [RowKit.intOf]; omega
    · have HE := hid (show Fa.idx d a = -1 by rw [HK.out, List.drop_eq_nil_of_le (by omega)]; rfl)
      go_wp2_with fail
      go_ret
      exact ⟨by rw [HE.out]; rfl, HB.out⟩

theorem idx_bad {d : Fa.Dom} {k : Nat} {f : Fa.Fact} (hf : d[k]? = some f) (h : Fa.idx d f.name ≠ (k : Int)) : Fa.valid d = false := by
  rw [Bool.eq_false_iff]; intro e
  unfold Fa.valid at e
  simp only [Bool.and_eq_true, decide_eq_true_eq] at e
  exact h (Fa.idx_at e.1.2 hf)
theorem idx_first {d : Fa.Dom} {k : Nat} {a : List UInt8} (h : Fa.idx d a = (k : Int)) : a ∉ (d.take k).map Fa.Fact.name := by
  intro hm
  have hd : d = d.take k ++ d.drop k := (List.take_append_drop k d).symm
  have key : ∀ (l r : Fa.Dom) (j : Nat), a ∈ l.map Fa.Fact.name → Fa.idxL (l ++ r) a j < j + l.length := by
    intro l
    induction l with
    | nil => intro r j h; simp at h
    | cons x l ih =>
      intro r j h
      rw [List.cons_append, Fa.idxL]
      split
      · simp only [List.length_cons]; omega
      · rename_i hx
        have := ih r (j + 1) (by
          simp only [List.map_cons, List.mem_cons] at h
          rcases h with h | h
          · exact absurd h.symm hx
          · exact h)
        simp only [List.length_cons]
        omega
  have := key (d.take k) (d.drop k) 0 hm
  rw [← hd] at this
  unfold Fa.idx at h
  rw [h] at this
  simp only [List.length_take] at this
  omega

set_option maxRecDepth 100000 in
set_option maxHeartbeats 8000000 in
theorem rValid_any (d : Fa.Dom) (v : Value) (w : World) (h : SlOf w v 4 factC d) (hn : ∀ f ∈ d, f.name.length ≤ 5000) : Calls Tryz.prog 13 #[.agg #[v]] w (Gives (.bool (Fa.valid d)) w) := by
  obtain ⟨W1, hW1⟩ : ∃ W1, W1 = w.alloc (.cells #[v] 24) := ⟨_, rfl⟩
  obtain ⟨c1, z1, hb1⟩ := box_cell hW1
  have HB := hid hb1
  have HS := hid h
  have HN := hid hn
  obtain ⟨va, cap, rfl, k1, k2, -⟩ := h
  have hl1 : d.length ≤ 9223372036854775807 := by unfold maxLen at k2; omega
  have HC1 := hid c1
  have HZ1 := hid z1
  clear k1 k2 hb1 hn
  go_enter Tryz.func13, Tryz.ntmps13
  go_upto_region 1 with (fail)
  rw [← hW1]
  clear hW1
  go_wp2_with fail
  go_loopw [3] (fun iv wr => ∃ k : Nat, k ≤ d.length ∧ iv = .int .i64 k ∧ Hid (vTo d k) ∧ Hid (Below W1.heap.size W1 wr)) (fun iv _ => d.length - (RowKit.intOf iv).toNat)
  case atStart => exact ⟨0, Nat.zero_le _, rfl, by simp [Hid, vTo], Below.refl _ _⟩
  case round =>
    obtain ⟨k, hk, rfl, HV, HR⟩ := hrel
    have HBR := hid (Below.step HB.out HR.out)
    clear c1 z1
    have c1 := (HR.out.cell (p := ⟨w.heap.size, 0, none⟩) HZ1.out).trans HC1.out
    have z1 := Nat.lt_of_lt_of_le HZ1.out HR.out.size
    by_cases hlt : k < d.length
    · obtain ⟨f, hf⟩ : ∃ f, d[k]? = some f := ⟨_, List.getElem?_eq_getElem hlt⟩
      obtain ⟨g, o, rfl, hg, e0, e1, e2, e3⟩ := fact_cells HS.out hf HBR.out
      have hk0 : (0 : Int) ≤ (k : Int) := by omega
      have hk1 : (k : Int) < (d.length : Int) := by omega
      have HF := hid hf
      have HFM := hid (List.mem_of_getElem? hf)
      obtain ⟨W5, hW5⟩ : ∃ W5, W5 = wr.alloc (.cells #[.string (bs f.name), .int .i64 f.kind, .int .i64 f.lo, .int .i64 f.hi] 62) := ⟨_, rfl⟩
      have hb5 : Below wr.heap.size wr W5 := by rw [hW5]; exact below_new wr _
      have hs5 : W5.heap[wr.heap.size]? = some (.cells #[.string (bs f.name), .int .i64 f.kind, .int .i64 f.lo, .int .i64 f.hi] 62 (0, 0)) := by rw [hW5]; exact alloc_new wr _
      have HX : Hid (∀ W, Below W5.heap.size W5 W → W.cell? ⟨wr.heap.size, 0, none⟩ = some (.string (bs f.name)) ∧ W.cell? ⟨wr.heap.size, 1, none⟩ = some (.int .i64 f.kind) ∧ W.cell? ⟨wr.heap.size, 2, none⟩ = some (.int .i64 f.lo) ∧ W.cell? ⟨wr.heap.size, 3, none⟩ = some (.int .i64 f.hi) ∧ wr.heap.size < W.heap.size ∧ W.cell? ⟨w.heap.size, 0, none⟩ = some (.slice (some ⟨g, o, none⟩) d.length cap) ∧ w.heap.size < W.heap.size) := fun W hW => by
        have h6 := (hW.block wr.heap.size (Array.getElem?_eq_some_iff.1 hs5).1).trans hs5
        exact ⟨by simp [World.cell?, h6], by simp [World.cell?, h6], by simp [World.cell?, h6], by simp [World.cell?, h6], (Array.getElem?_eq_some_iff.1 h6).1,
          ((Below.step hb5 hW).cell (p := ⟨w.heap.size, 0, none⟩) z1).trans c1, Nat.lt_of_lt_of_le z1 (Below.step hb5 hW).size⟩
      have HB5 := hid (Below.step HR.out hb5)
      clear hf hb5 hs5
      go_upto_region 5 with (fail)
      rw [← hW5]
      clear hW5 e0 e1 e2 e3 c1 z1
      obtain ⟨x0, x1, x2, x3, xz, c1, z1⟩ := HX.out W5 (Below.refl _ _)
      have hnl : (bs f.name).size ≤ maxLen := by have := HN.out f HFM.out; rw [bs_size]; unfold maxLen; omega
      have HNA := hid (name_any (bs f.name) W5 hnl)
      rw [nameB_nm] at HNA
      have HIX := hid (rIndex_any d (.slice (some ⟨g, o, none⟩) d.length cap) f.name W5 (HS.out.below (Below.step HB.out HB5.out)))
      clear hnl
      cases hnm : Fa.nm f.name with
      | false =>
        rw [hnm] at HNA
        have HE := hid (valid_no HFM.out (by rw [hnm, Bool.and_false]))
        clear hnm
        go_wp2_with fail
        refine (HNA.out).mono ?_
        rintro e w6 ⟨rfl, rfl⟩
        go_wp2_with fail
        go_ret
        exact ⟨ret_bool HE.out.symm, Below.step HB.out HB5.out⟩
      | true =>
        rw [hnm] at HNA
        have HNM := hid hnm
        clear hnm
        go_wp2_with fail
        refine (HNA.out).mono ?_
        rintro e w6 ⟨rfl, hw6⟩
        subst hw6
        go_wp2_with fail
        refine (HIX.out).mono ?_
        rintro e w7 ⟨rfl, hb7⟩
        clear x0 x1 x2 x3 xz c1 z1
        obtain ⟨x0, x1, x2, x3, xz, c1, z1⟩ := HX.out w7 hb7
        have HB7 := hid (Below.step HB5.out hb7)
        clear hb7
        by_cases hi : Fa.idx d f.name = (k : Int)
        · have hib : (Fa.idx d f.name != (k : Int)) = false := by rw [hi]; simp
          have HI := hid hi
          clear hi
          by_cases q1 : f.lo < 0
          · have HE := hid (valid_no HFM.out (show (Fa.okKind f && Fa.nm f.name) = false by
              have : Fa.okKind f = false := by
                unfold Fa.okKind
                rw [Bool.or_eq_false_iff]
                constructor
                · rw [decide_eq_false (show ¬ f.lo = 0 by omega)]; simp
                · rw [decide_eq_false (show ¬ 0 ≤ f.lo by omega)]; simp
              rw [this]; rfl))
            have d1 : decide (f.lo < 0) = true := decide_eq_true q1
            clear q1
            go_wp2_with fail
            go_ret
            exact ⟨ret_bool HE.out.symm, Below.step HB.out HB7.out⟩
          · have d1 : decide (f.lo < 0) = false := decide_eq_false q1
            by_cases q2 : f.hi < f.lo
            · have HE := hid (valid_no HFM.out (show (Fa.okKind f && Fa.nm f.name) = false by
                have : Fa.okKind f = false := by
                  unfold Fa.okKind
                  rw [Bool.or_eq_false_iff]
                  constructor
                  · by_cases h0 : f.lo = 0
                    · rw [decide_eq_false (show ¬ f.hi = 1 by omega)]; simp
                    · rw [decide_eq_false h0]; simp
                  · rw [decide_eq_false (show ¬ f.lo ≤ f.hi by omega)]; simp
                rw [this]; rfl))
              have d2 : decide (f.hi < f.lo) = true := decide_eq_true q2
              clear q1 q2
              go_wp2_with fail
              go_ret
              exact ⟨ret_bool HE.out.symm, Below.step HB.out HB7.out⟩
            · have d2 : decide (f.hi < f.lo) = false := decide_eq_false q2
              by_cases q3 : 1000000 < f.hi
              · have HE := hid (valid_no HFM.out (show (Fa.okKind f && Fa.nm f.name) = false by
                  have : Fa.okKind f = false := by
                    unfold Fa.okKind
                    rw [Bool.or_eq_false_iff]
                    constructor
                    · rw [decide_eq_false (show ¬ f.hi = 1 by omega)]; simp
                    · rw [decide_eq_false (show ¬ f.hi ≤ 1000000 by omega)]; simp
                  rw [this]; rfl))
                have d3 : decide (1000000 < f.hi) = true := decide_eq_true q3
                clear q1 q2 q3
                go_wp2_with fail
                go_ret
                exact ⟨ret_bool HE.out.symm, Below.step HB.out HB7.out⟩
              · have d3 : decide (1000000 < f.hi) = false := decide_eq_false q3
                by_cases p1 : f.kind < 1
                · have HE := hid (valid_no HFM.out (show (Fa.okKind f && Fa.nm f.name) = false by
                    have : Fa.okKind f = false := by
                      unfold Fa.okKind
                      rw [decide_eq_false (show ¬ f.kind = 1 by omega), decide_eq_false (show ¬ f.kind = 2 by omega)]; rfl
                    rw [this]; rfl))
                  have d4 : decide (f.kind < 1) = true := decide_eq_true p1
                  clear q1 q2 q3 p1
                  go_wp2_with fail
                  go_ret
                  exact ⟨ret_bool HE.out.symm, Below.step HB.out HB7.out⟩
                · have d4 : decide (f.kind < 1) = false := decide_eq_false p1
                  by_cases p2 : 2 < f.kind
                  · have HE := hid (valid_no HFM.out (show (Fa.okKind f && Fa.nm f.name) = false by
                      have : Fa.okKind f = false := by
                        unfold Fa.okKind
                        rw [decide_eq_false (show ¬ f.kind = 1 by omega), decide_eq_false (show ¬ f.kind = 2 by omega)]; rfl
                      rw [this]; rfl))
                    have d5 : decide (2 < f.kind) = true := decide_eq_true p2
                    clear q1 q2 q3 p1 p2
                    go_wp2_with fail
                    go_ret
                    exact ⟨ret_bool HE.out.symm, Below.step HB.out HB7.out⟩
                  · have d5 : decide (2 < f.kind) = false := decide_eq_false p2
                    have HNEXT : Hid (Fa.okKind f = true → vTo d (k + 1)) := fun hok => vTo_step HF.out HV.out (by rw [hok, HNM.out]; rfl) (idx_first HI.out)
                    by_cases p3 : f.kind = 1
                    · have d6 : (f.kind == 1) = true := by rw [p3]; rfl
                      by_cases q4 : f.lo = 0
                      · have d7 : (f.lo != 0) = false := by rw [q4]; rfl
                        by_cases q5 : f.hi = 1
                        · have d8 : (f.hi != 1) = false := by rw [q5]; rfl
                          have HE := hid (HNEXT.out (by unfold Fa.okKind; rw [decide_eq_true p3, decide_eq_true q4, decide_eq_true q5]; rfl))
                          clear q1 q2 q3 p1 p2 p3 q4 q5
                          go_wp2_with fail
                          go_roundw
                          case rel => exact ⟨k + 1, by omega, by go_num, HE, HB7⟩
                          case measure => simp [RowKit.intOf]; omega
                        · have d8 : (f.hi != 1) = true := by rw [bne_iff_ne]; exact q5
                          have HE := hid (valid_no HFM.out (show (Fa.okKind f && Fa.nm f.name) = false by
                            have : Fa.okKind f = false := by
                              unfold Fa.okKind
                              rw [decide_eq_false q5, decide_eq_false (show ¬ f.kind = 2 by omega)]; simp
                            rw [this]; rfl))
                          clear q1 q2 q3 p1 p2 p3 q4 q5
                          go_wp2_with fail
                          go_ret
                          exact ⟨ret_bool HE.out.symm, Below.step HB.out HB7.out⟩
                      · have d7 : (f.lo != 0) = true := by rw [bne_iff_ne]; exact q4
                        have HE := hid (valid_no HFM.out (show (Fa.okKind f && Fa.nm f.name) = false by
                          have : Fa.okKind f = false := by
                            unfold Fa.okKind
                            rw [decide_eq_false q4, decide_eq_false (show ¬ f.kind = 2 by omega)]; simp
                          rw [this]; rfl))
                        clear q1 q2 q3 p1 p2 p3 q4
                        go_wp2_with fail
                        go_ret
                        exact ⟨ret_bool HE.out.symm, Below.step HB.out HB7.out⟩
                    · have d6 : (f.kind == 1) = false := by rw [beq_eq_false_iff_ne]; exact p3
                      have HE := hid (HNEXT.out (by
                        unfold Fa.okKind
                        rw [decide_eq_true (show f.kind = 2 by omega), decide_eq_true (show 0 ≤ f.lo by omega), decide_eq_true (show f.lo ≤ f.hi by omega), decide_eq_true (show f.hi ≤ 1000000 by omega)]; simp))
                      clear q1 q2 q3 p1 p2 p3
                      go_wp2_with fail
                      go_roundw
                      case rel => exact ⟨k + 1, by omega, by go_num, HE, HB7⟩
                      case measure => simp [RowKit.intOf]; omega
        · have hib : (Fa.idx d f.name != (k : Int)) = true := by rw [bne_iff_ne]; exact hi
          have HE := hid (idx_bad HF.out hi)
          clear hi
          go_wp2_with fail
          go_ret
          exact ⟨ret_bool HE.out.symm, Below.step HB.out HB7.out⟩
    · have hke : k = d.length := by omega
      subst hke
      have HE := hid (vTo_end HV.out)
      obtain ⟨q, hq⟩ : ∃ q, q = decide (d.length ≤ 60) := ⟨_, rfl⟩
      have hq2 : decide ((d.length : Int) ≤ 60) = q := by
        rw [hq, decide_eq_decide]; omega
      have HQ := hid hq
      clear hq
      go_wp2_with fail
      go_ret
      exact ⟨ret_bool (HQ.out.trans HE.out.symm), HBR.out⟩

end Go.Proofs.YteogmlgmodeajaaGreatDoor

namespace Go.Proofs.YteogmlgmodeajaaGreatDoor
open Go.RowKit Go.Lib Go.Maps

/-- the domain in its cell -/
structure BoxD (w W : World) (v : Value) (d : Fa.Dom) : Prop where
  one : One W w.heap.size 24 v
  sl : SlOf W v 4 factC d
  below : Below w.heap.size w W
theorem BoxD.start {w : World} {v : Value} {d : Fa.Dom} (h : SlOf w v 4 factC d) {W : World} (hW : W = w.alloc (.cells #[v] 24)) : BoxD w W v d := by
  subst hW
  exact ⟨One.new w _ _, h.below (below_new w _), below_new w _⟩
theorem BoxD.step {w W W' : World} {v : Value} {d : Fa.Dom} (h : BoxD w W v d) (hb : Below W.heap.size W W') : BoxD w W' v d := ⟨h.one.below hb, h.sl.below hb, Below.step h.below hb⟩

set_option maxRecDepth 100000 in
set_option maxHeartbeats 4000000 in
theorem rFits_any (d : Fa.Dom) (c : List Int) (v vc : Value) (w : World) (h : SlOf w v 4 factC d) (hcs : SlOf w vc 1 numC c) (hn : ∀ f ∈ d, f.name.length ≤ 5000) :
    Calls Tryz.prog 15 #[.agg #[v], vc] w (Gives (.bool (Fa.fits d c)) w) := by
  have HS := hid h
  have HC := hid hcs
  obtain ⟨W1, hW1⟩ : ∃ W1, W1 = w.alloc (.cells #[v] 24) := ⟨_, rfl⟩
  have HB1 := hid (BoxD.start h hW1)
  obtain ⟨va, cap, rfl, k1, k2, -⟩ := h
  obtain ⟨vd, cap2, rfl, k3, k4, -⟩ := hcs
  have hd2 : d.length ≤ 9223372036854775807 := by unfold maxLen at k2; omega
  have hd3 : c.length ≤ 9223372036854775807 := by unfold maxLen at k4; omega
  have HVC := hid (rValid_any d _ W1 HB1.out.sl hn)
  have c1 := HB1.out.one.cell
  have z1 := HB1.out.one.lt
  clear hn k1 k2 k3 k4
  go_enter Tryz.func15, Tryz.ntmps15
  go_upto_region 1 with (fail)
  rw [← hW1]
  clear hW1
  go_wp2_with fail
  refine (HVC.out).mono ?_
  rintro e w2 ⟨rfl, hb2⟩
  have HB2 := hid (HB1.out.step hb2)
  clear hb2 c1 z1
  have c2 := HB2.out.one.cell
  have z2 := HB2.out.one.lt
  cases hv : Fa.valid d with
  | false =>
    have HE := hid (fits_not_valid c hv)
    go_wp2_with fail
    go_ret
    exact ⟨ret_bool HE.out.symm, HB2.out.below⟩
  | true =>
    have HV := hid hv
    clear hv
    by_cases hl : c.length = d.length
    · have hlb : ((c.length : Int) != (d.length : Int)) = false := by rw [hl]; simp
      have HL := hid hl
      clear hl
      go_wp2_with fail
      go_loopw [5] (fun iv wr => ∃ k : Nat, k ≤ d.length ∧ iv = .int .i64 k ∧ Hid (fTo d c k) ∧ Hid (Below w2.heap.size w2 wr)) (fun iv _ => d.length - (RowKit.intOf iv).toNat)
      case atStart => exact ⟨0, Nat.zero_le _, rfl, by simp [Hid, fTo], Below.refl _ _⟩
      case round =>
        obtain ⟨k, hk, rfl, HK, HR⟩ := hrel
        have HBR := hid (HB2.out.step HR.out)
        clear c2 z2
        have c2 := HBR.out.one.cell
        have z2 := HBR.out.one.lt
        by_cases hlt : k < d.length
        · obtain ⟨f, hf⟩ : ∃ f, d[k]? = some f := ⟨_, List.getElem?_eq_getElem hlt⟩
          obtain ⟨x, hx⟩ : ∃ x, c[k]? = some x := ⟨_, List.getElem?_eq_getElem (by rw [HL.out]; exact hlt)⟩
          obtain ⟨g, o, rfl, hg, e0, e1, e2, e3⟩ := fact_cells HS.out hf HBR.out.below
          obtain ⟨g2, o2, rfl, hg2, y0⟩ := num_cell HC.out hx HBR.out.below
          have hk0 : (0 : Int) ≤ (k : Int) := by omega
          have hk1 : (k : Int) < (d.length : Int) := by omega
          have hk2 : (k : Int) < (c.length : Int) := by rw [HL.out]; omega
          have HF := hid hf
          have HX := hid hx
          clear hf hx
          by_cases q1 : x < f.lo
          · have d1 : decide (x < f.lo) = true := decide_eq_true q1
            have HE := hid (fits_no HF.out HX.out (.inl q1))
            clear q1
            go_wp2_with fail
            go_quiet (fail)
            go_wp2_with fail
            go_ret
            exact ⟨ret_bool HE.out.symm, Below.step HBR.out.below (Below.drewQ _ _)⟩
          · have d1 : decide (x < f.lo) = false := decide_eq_false q1
            by_cases q2 : f.hi < x
            · have d2 : decide (f.hi < x) = true := decide_eq_true q2
              have HE := hid (fits_no HF.out HX.out (.inr q2))
              clear q1 q2
              go_wp2_with fail
              go_quiet (fail)
              go_wp2_with fail
              go_ret
              exact ⟨ret_bool HE.out.symm, Below.step HBR.out.below (Below.drewQ _ _)⟩
            · have d2 : decide (f.hi < x) = false := decide_eq_false q2
              have HT := hid (fTo_step HF.out HX.out HK.out q1 q2)
              clear q1 q2
              go_wp2_with fail
              go_quiet (fail)
              go_wp2_with fail
              go_roundw
              case rel => exact ⟨k + 1, by omega, by go_num, HT, Below.step HR.out (Below.drewQ _ _)⟩
              case measure => simp [RowKit.intOf]; omega
        · have hke : k = d.length := by omega
          have HE := hid (fits_done HV.out HL.out (hke ▸ HK.out))
          have hk2 : ¬ (k : Int) < (c.length : Int) := by rw [HL.out]; omega
          clear hke
          go_wp2_with fail
          go_ret
          exact ⟨ret_bool HE.out.symm, HBR.out.below⟩
    · have hlb : ((c.length : Int) != (d.length : Int)) = true := by rw [bne_iff_ne]; omega
      have HE := hid (fits_len hl)
      clear hl
      go_wp2_with fail
      go_ret
      exact ⟨ret_bool HE.out.symm, HB2.out.below⟩

theorem digit10 {n : Nat} (h : n < 10) : (⟨#[48, 49, 50, 51, 52, 53, 54, 55, 56, 57]⟩ : ByteArray).extract n (n + 1) = bs (Lx.dec n) := by
  refine bs_ext ?_
  rw [extract_list, Lx.dec_small h]
  match n, h with
  | 0, _ => rfl
  | 1, _ => rfl
  | 2, _ => rfl
  | 3, _ => rfl
  | 4, _ => rfl
  | 5, _ => rfl
  | 6, _ => rfl
  | 7, _ => rfl
  | 8, _ => rfl
  | 9, _ => rfl
theorem bs_append (a b : List UInt8) : bs a ++ bs b = bs (a ++ b) := bs_ext (by simp [bs])
/-- what digits stand behind the first ones -/
def DigAt (n m : Nat) (s : List UInt8) : Prop := Lx.dec n = (if m = 0 then [] else Lx.dec m) ++ s
theorem DigAt.start (n : Nat) : DigAt n (n / 10) (Lx.dec (n % 10)) := by
  unfold DigAt
  by_cases h : n < 10
  · rw [if_pos (by omega), Nat.mod_eq_of_lt h]; rfl
  · rw [if_neg (by omega), Lx.dec_big h]
theorem DigAt.step {n m : Nat} {s : List UInt8} (h : DigAt n m s) (hm : 0 < m) : DigAt n (m / 10) (Lx.dec (m % 10) ++ s) := by
  unfold DigAt at h ⊢
  rw [h, if_neg (by omega)]
  by_cases h1 : m < 10
  · rw [if_pos (by omega), Nat.mod_eq_of_lt h1]; rfl
  · rw [if_neg (by omega), Lx.dec_big h1, List.append_assoc]
theorem DigAt.done {n : Nat} {s : List UInt8} (h : DigAt n 0 s) : Lx.dec n = s := by unfold DigAt at h; simpa using h

set_option maxRecDepth 100000 in
set_option maxHeartbeats 4000000 in
theorem digits_any (n : Nat) (hn : n ≤ 1000000000) (w : World) : Calls Tryz.prog 63 #[.int .u64 n] w (Same (.string (bs (Lx.dec n))) w) := by
  obtain ⟨r, hr, hr1⟩ : ∃ r : Nat, (n : Int) % 10 = (r : Int) ∧ r = n % 10 := ⟨n % 10, by omega, rfl⟩
  obtain ⟨q, hq, hq1⟩ : ∃ q : Nat, (n : Int) / 10 = (q : Int) ∧ q = n / 10 := ⟨n / 10, by omega, rfl⟩
  have hr10 : r < 10 := by omega
  have e3 := digit10 hr10
  have e5 : IntKind.u64.wrap ((r : Int) + 1) = (r : Int) + 1 := IntWalk.u64_in _ (by omega)
  have e6 : ((r : Int) + 1).toNat = r + 1 := by omega
  have e7 : (r : Int) + 1 ≤ 10 := by omega
  have HD := hid (DigAt.start n)
  rw [← hr1, ← hq1] at HD
  have HDL := hid (show (Lx.dec n).length ≤ 10 from Fa.dec_len 10 (by decide) (by omega))
  have HQ := hid (show q ≤ 1000000000 by omega)
  clear hr1 hq1
  go_enter Tryz.func63, Tryz.ntmps63
  go_wp2_with fail
  go_loop [0, 3] (fun nv sv => ∃ (m : Nat) (s : List UInt8), m ≤ 1000000000 ∧ nv = .int .u64 m ∧ sv = .string (bs s) ∧ Hid (DigAt n m s)) (fun nv _ => (RowKit.intOf nv).toNat)
  case atStart => exact ⟨q, Lx.dec r, HQ.out, rfl, rfl, HD⟩
  case round =>
    clear e3 e5 e6 e7 hr hq
    obtain ⟨m, s, hm, rfl, rfl, HK⟩ := hrel
    by_cases h0 : 0 < m
    · have HK2 := hid (HK.out.step h0)
      have HSL := hid (show s.length ≤ 10 by
        have h1 := HK.out
        unfold DigAt at h1
        have h2 := congrArg List.length h1
        have h3 := HDL.out
        rw [List.length_append] at h2
        omega)
      obtain ⟨r2, hr, hr1⟩ : ∃ r2 : Nat, (m : Int) % 10 = (r2 : Int) ∧ r2 = m % 10 := ⟨m % 10, by omega, rfl⟩
      obtain ⟨q2, hq, hq1⟩ : ∃ q2 : Nat, (m : Int) / 10 = (q2 : Int) ∧ q2 = m / 10 := ⟨m / 10, by omega, rfl⟩
      have hr210 : r2 < 10 := by omega
      have e3 := digit10 hr210
      have e5 : IntKind.u64.wrap ((r2 : Int) + 1) = (r2 : Int) + 1 := IntWalk.u64_in _ (by omega)
      have e6 : ((r2 : Int) + 1).toNat = r2 + 1 := by omega
      have e7 : (r2 : Int) + 1 ≤ 10 := by omega
      have hz1 : (bs (Lx.dec r2)).size ≤ 10 := by rw [bs_size]; exact Fa.dec_len 10 (by decide) (by omega)
      have hz2 : (bs s).size ≤ 10 := by rw [bs_size]; exact HSL.out
      have hm0 : (0 : Int) < (m : Int) := by omega
      have HA := hid (bs_append (Lx.dec r2) s)
      have HQ2 := hid (show q2 ≤ 1000000000 ∧ q2 < m by omega)
      rw [← hr1, ← hq1] at HK2
      clear hr1 hq1 h0
      go_wp2_with fail
      go_round
      case rel => exact ⟨q2, Lx.dec r2 ++ s, HQ2.out.1, rfl, by rw [HA.out], HK2⟩
      case measure => simp [RowKit.intOf]; exact HQ2.out.2
    · have hm0 : m = 0 := by omega
      subst hm0
      have HE := hid HK.out.done
      go_wp2_with fail
      go_ret
      exact ⟨by rw [HE.out]; rfl, rfl⟩

set_option maxRecDepth 100000 in
set_option maxHeartbeats 4000000 in
theorem decimal1_any (n : Int) (h0 : 0 ≤ n) (hn : n ≤ 1000000) (w : World) : Calls Tryz.prog 50 #[.int .i64 n] w (Same (.string (bs (Lx.dec n.toNat))) w) := by
  have HD := hid (digits_any n.toNat (by omega) w)
  rw [Int.toNat_of_nonneg h0] at HD
  have e1 : IntKind.u64.wrap n = n := IntWalk.u64_in _ (by omega)
  have e2 : decide (n < 0) = false := decide_eq_false (by omega)
  go_enter Tryz.func50, Tryz.ntmps50
  go_wp2_with fail
  refine (HD.out).mono ?_
  rintro e w2 ⟨rfl, rfl⟩
  go_wp2_with fail
  go_ret
  exact ⟨rfl, rfl⟩

theorem fact_text_flag {f : Fa.Fact} (h : f.kind = 1) : Fa.factText f = f.name ++ [32, 102, 108, 97, 103, 59, 10] := by
  unfold Fa.factText
  rw [if_pos h]
  simp [Fa.tFlag]
theorem fact_text_num {f : Fa.Fact} (h : f.kind ≠ 1) : Fa.factText f = f.name ++ [32, 110, 117, 109, 98, 101, 114, 32] ++ Lx.dec f.lo.toNat ++ [32, 116, 111, 32] ++ Lx.dec f.hi.toNat ++ [59, 10] := by
  unfold Fa.factText
  rw [if_neg h]
  simp [Fa.tNumber, Fa.tTo]
theorem ok_bounds {d : Fa.Dom} (h : Fa.valid d = true) {f : Fa.Fact} (hf : f ∈ d) : f.name.length ≤ 24 ∧ 0 ≤ f.lo ∧ f.lo ≤ 1000000 ∧ 0 ≤ f.hi ∧ f.hi ≤ 1000000 := by
  unfold Fa.valid at h
  simp only [Bool.and_eq_true, List.all_eq_true] at h
  obtain ⟨h1, h2⟩ := h.1.1 f hf
  unfold Fa.nm at h2
  unfold Fa.okKind at h1
  simp only [Bool.and_eq_true, Bool.or_eq_true, decide_eq_true_eq] at h1 h2
  omega

set_option maxRecDepth 100000 in
set_option maxHeartbeats 8000000 in
theorem rText_any (d : Fa.Dom) (v : Value) (w : World) (h : SlOf w v 4 factC d) (hn : ∀ f ∈ d, f.name.length ≤ 5000) : Calls Tryz.prog 19 #[.agg #[v]] w (Gives (.string (bs (Fa.text d))) w) := by
  have HS := hid h
  obtain ⟨W1, hW1⟩ : ∃ W1, W1 = w.alloc (.cells #[v] 24) := ⟨_, rfl⟩
  have HB1 := hid (BoxD.start h hW1)
  obtain ⟨va, cap, rfl, k1, k2, -⟩ := h
  have hd2 : d.length ≤ 9223372036854775807 := by unfold maxLen at k2; omega
  have HVC := hid (rValid_any d _ W1 HB1.out.sl hn)
  have c1 := HB1.out.one.cell
  have z1 := HB1.out.one.lt
  clear hn k1 k2
  go_enter Tryz.func19, Tryz.ntmps19
  go_upto_region 1 with (fail)
  rw [← hW1]
  clear hW1
  go_wp2_with fail
  refine (HVC.out).mono ?_
  rintro e w2 ⟨rfl, hb2⟩
  have HB2 := hid (HB1.out.step hb2)
  clear hb2 c1 z1
  have c2 := HB2.out.one.cell
  have z2 := HB2.out.one.lt
  cases hv : Fa.valid d with
  | false =>
    have HE := hid (show bs (Fa.text d) = ⟨#[]⟩ by unfold Fa.text; rw [hv]; rfl)
    clear hv
    go_wp2_with fail
    go_ret
    exact ⟨by rw [HE.out]; rfl, HB2.out.below⟩
  | true =>
    have HV := hid hv
    have HE := hid (show Fa.text d = txTo d d.length by unfold Fa.text txTo; rw [hv, List.take_length]; rfl)
    clear hv
    go_wp2_with fail
    go_loopw [3, 4] (fun sv iv wr => ∃ k : Nat, k ≤ d.length ∧ iv = .int .i64 k ∧ sv = .string (bs (txTo d k)) ∧ Hid (Below w2.heap.size w2 wr)) (fun _ iv _ => d.length - (RowKit.intOf iv).toNat)
    case atStart => exact ⟨0, Nat.zero_le _, rfl, rfl, Below.refl _ _⟩
    case round =>
      obtain ⟨k, hk, rfl, rfl, HR⟩ := hrel
      have HBR := hid (HB2.out.step HR.out)
      clear c2 z2
      have c2 := HBR.out.one.cell
      have z2 := HBR.out.one.lt
      by_cases hlt : k < d.length
      · obtain ⟨f, hf⟩ : ∃ f, d[k]? = some f := ⟨_, List.getElem?_eq_getElem hlt⟩
        obtain ⟨g, o, rfl, hg, e0, e1, e2, e3⟩ := fact_cells HS.out hf HBR.out.below
        have hk0 : (0 : Int) ≤ (k : Int) := by omega
        have hk1 : (k : Int) < (d.length : Int) := by omega
        have HT := hid (txTo_step hf)
        obtain ⟨b1, b2, b3, b4, b5⟩ := ok_bounds HV.out (List.mem_of_getElem? hf)
        have t1 : (bs (txTo d k)).size ≤ 3600 := by rw [bs_size]; exact txTo_len HV.out k
        have t2 : (bs f.name).size ≤ 24 := by rw [bs_size]; exact b1
        have HLO := hid (fun W => decimal1_any f.lo b2 b3 W)
        have HHI := hid (fun W => decimal1_any f.hi b4 b5 W)
        have t3 : (bs (Lx.dec f.lo.toNat)).size ≤ 10 := by rw [bs_size]; exact Fa.dec_len 10 (by decide) (by omega)
        have t4 : (bs (Lx.dec f.hi.toNat)).size ≤ 10 := by rw [bs_size]; exact Fa.dec_len 10 (by decide) (by omega)
        have t5 : (bs (txTo d k) ++ bs f.name).size = (bs (txTo d k)).size + (bs f.name).size := ByteArray.size_append
        obtain ⟨W5, hW5⟩ : ∃ W5, W5 = wr.alloc (.cells #[.string (bs f.name), .int .i64 f.kind, .int .i64 f.lo, .int .i64 f.hi] 62) := ⟨_, rfl⟩
        have hb5 : Below wr.heap.size wr W5 := by rw [hW5]; exact below_new wr _
        have hs5 : W5.heap[wr.heap.size]? = some (.cells #[.string (bs f.name), .int .i64 f.kind, .int .i64 f.lo, .int .i64 f.hi] 62 (0, 0)) := by rw [hW5]; exact alloc_new wr _
        have x0 : W5.cell? ⟨wr.heap.size, 0, none⟩ = some (.string (bs f.name)) := by simp [World.cell?, hs5]
        have x1 : W5.cell? ⟨wr.heap.size, 1, none⟩ = some (.int .i64 f.kind) := by simp [World.cell?, hs5]
        have x2 : W5.cell? ⟨wr.heap.size, 2, none⟩ = some (.int .i64 f.lo) := by simp [World.cell?, hs5]
        have x3 : W5.cell? ⟨wr.heap.size, 3, none⟩ = some (.int .i64 f.hi) := by simp [World.cell?, hs5]
        have hxz : wr.heap.size < W5.heap.size := (Array.getElem?_eq_some_iff.1 hs5).1
        have HB5 := hid (Below.step HR.out hb5)
        clear hf b1 b2 b3 b4 b5 hb5 hs5
        go_upto_region 8 with (fail)
        rw [← hW5]
        clear hW5 e0 e1 e2 e3
        by_cases hk : f.kind = 1
        · have d1 : (f.kind == 1) = true := by rw [hk]; rfl
          have HX := hid (show bs (txTo d k) ++ bs f.name ++ ⟨#[32, 102, 108, 97, 103, 59, 10]⟩ = bs (txTo d (k + 1)) from bs_ext (by
            rw [HT.out, fact_text_flag hk]; simp [bs, ByteArray.data_append]))
          clear hk
          go_wp2_with fail
          go_roundw
          case rel => exact ⟨k + 1, by omega, by go_num, by rw [HX.out], HB5.out⟩
          case measure => simp [RowKit.intOf]; omega
        · have d1 : (f.kind == 1) = false := by rw [beq_eq_false_iff_ne]; exact hk
          have HX := hid (show bs (txTo d k) ++ bs f.name ++ ⟨#[32, 110, 117, 109, 98, 101, 114, 32]⟩ ++ bs (Lx.dec f.lo.toNat) ++ ⟨#[32, 116, 111, 32]⟩ ++ bs (Lx.dec f.hi.toNat) ++ ⟨#[59, 10]⟩ = bs (txTo d (k + 1)) from bs_ext (by
            rw [HT.out, fact_text_num hk]; simp [bs, ByteArray.data_append]))
          clear hk
          go_upto_region 11 with (fail)
          obtain ⟨T, hT⟩ : ∃ T, T = bs (txTo d k) ++ bs f.name := ⟨_, rfl⟩
          obtain ⟨D1, hD1⟩ : ∃ D1, D1 = bs (Lx.dec f.lo.toNat) := ⟨_, rfl⟩
          obtain ⟨D2, hD2⟩ : ∃ D2, D2 = bs (Lx.dec f.hi.toNat) := ⟨_, rfl⟩
          rw [← hT]
          rw [← hT, ← hD1, ← hD2] at HX
          rw [← hD1] at HLO t3
          rw [← hD2] at HHI t4
          rw [← hT] at t5
          have g1 : ¬ 9223372036854775807 < T.size + 8 := by omega
          have g2 : ¬ 9223372036854775807 < T.size + 8 + D1.size := by omega
          have g3 : ¬ 9223372036854775807 < T.size + 8 + D1.size + 4 := by omega
          have g4 : ¬ 9223372036854775807 < T.size + 8 + D1.size + 4 + D2.size := by omega
          have g5 : ¬ 9223372036854775807 < T.size + 8 + D1.size + 4 + D2.size + 2 := by omega
          clear hT hD1 hD2 t1 t2 t3 t4 t5
          have HD := hid (show Below W5.heap.size W5 W5.drew from (Below.refl _ W5).drew)
          refine wp_heldS (S := StillAt W5) (by kernel_rfl) ?_
          simp only [List.size_toArray, List.length_cons, List.length_nil, Nat.reduceAdd]
          intro hc
          have S0 : StillAt W5 (Array.replicate 13 false) W5.drew := HD.out
          refine wpAnyS_take (i := 0) (v := .string T) rfl (by kernel_rfl) (by kernel_rfl) (by kernel_rfl) (fun _ _ _ h => h) (fun _ _ => Iff.rfl) hc (by first | rfl | simp [Region.wanted]) (fun wx hx => ?_) S0 (fun hc S0 => ?_)
          · go_simp
          try simp only [List.getElem_toArray, List.getElem_cons_zero, Act.put, List.setIfInBounds_toArray, List.set_cons_zero, List.set_cons_succ]
          refine wpAnyS_take (i := 1) (v := .string (T ++ ⟨#[32, 110, 117, 109, 98, 101, 114, 32]⟩)) rfl (by kernel_rfl) (by kernel_rfl) (by kernel_rfl) (fun _ _ _ h => h) (fun _ _ => Iff.rfl) hc (by first | rfl | simp [Region.wanted]) (fun wx hx => ?_) S0 (fun hc S0 => ?_)
          · go_simp
          try simp only [List.getElem_toArray, List.getElem_cons_succ, List.getElem_cons_zero, Act.put, List.setIfInBounds_toArray, List.set_cons_zero, List.set_cons_succ]
          refine wpAnyS_take (i := 2) (v := .pointer (some ⟨wr.heap.size, 2, none⟩)) rfl (by kernel_rfl) (by kernel_rfl) (by kernel_rfl) (fun _ _ _ h => h) (fun _ _ => Iff.rfl) hc (by first | rfl | simp [Region.wanted]) (fun wx hx => ?_) S0 (fun hc S0 => ?_)
          · go_simp
          try simp only [List.getElem_toArray, List.getElem_cons_succ, List.getElem_cons_zero, Act.put, List.setIfInBounds_toArray, List.set_cons_zero, List.set_cons_succ]
          refine wpAnyS_take (i := 3) (v := .int .i64 f.lo) rfl (by kernel_rfl) (by kernel_rfl) (by kernel_rfl) (fun _ _ _ h => h) (fun _ _ => Iff.rfl) hc (by first | rfl | simp [Region.wanted]) (fun wx hx => ?_) S0 (fun hc S0 => ?_)
          · have g := (hx.still.cell (p := ⟨wr.heap.size, 2, none⟩) hxz).trans x2
            go_simp
          try simp only [List.getElem_toArray, List.getElem_cons_succ, List.getElem_cons_zero, Act.put, List.setIfInBounds_toArray, List.set_cons_zero, List.set_cons_succ]
          refine wpAnyS_take (i := 7) (v := .pointer (some ⟨wr.heap.size, 3, none⟩)) rfl (by kernel_rfl) (by kernel_rfl) (by kernel_rfl) (fun _ _ _ h => h) (fun _ _ => Iff.rfl) hc (by first | rfl | simp [Region.wanted]) (fun wx hx => ?_) S0 (fun hc S0 => ?_)
          · go_simp
          try simp only [List.getElem_toArray, List.getElem_cons_succ, List.getElem_cons_zero, Act.put, List.setIfInBounds_toArray, List.set_cons_zero, List.set_cons_succ]
          refine wpAnyS_take (i := 8) (v := .int .i64 f.hi) rfl (by kernel_rfl) (by kernel_rfl) (by kernel_rfl) (fun _ _ _ h => h) (fun _ _ => Iff.rfl) hc (by first | rfl | simp [Region.wanted]) (fun wx hx => ?_) S0 (fun hc S0 => ?_)
          · have g := (hx.still.cell (p := ⟨wr.heap.size, 3, none⟩) hxz).trans x3
            go_simp
          try simp only [List.getElem_toArray, List.getElem_cons_succ, List.getElem_cons_zero, Act.put, List.setIfInBounds_toArray, List.set_cons_zero, List.set_cons_succ]
          refine wpAnyS_one (i := 4) rfl (by kernel_rfl) (by rfl) hc (fun K' hK => ?_)
          go_simp
          refine (HLO.out _).mono ?_
          rintro e w' ⟨rfl, rfl⟩
          refine hK.out _ _ HD.out (fun hc => ?_)
          clear hK K'
          have S0 : StillAt W5 #[] W5.drew := HD.out
          try simp only [List.getElem_toArray, List.getElem_cons_succ, List.getElem_cons_zero, Act.put, List.setIfInBounds_toArray, List.set_cons_zero, List.set_cons_succ]
          refine wpAnyS_take (i := 5) (v := .string (T ++ ⟨#[32, 110, 117, 109, 98, 101, 114, 32]⟩ ++ D1)) rfl (by kernel_rfl) (by kernel_rfl) (by kernel_rfl) (fun _ _ _ h => h) (fun _ _ => Iff.rfl) hc (by first | rfl | simp [Region.wanted]) (fun wx hx => ?_) S0 (fun hc S0 => ?_)
          · go_simp
          try simp only [List.getElem_toArray, List.getElem_cons_succ, List.getElem_cons_zero, Act.put, List.setIfInBounds_toArray, List.set_cons_zero, List.set_cons_succ]
          refine wpAnyS_take (i := 6) (v := .string (T ++ ⟨#[32, 110, 117, 109, 98, 101, 114, 32]⟩ ++ D1 ++ ⟨#[32, 116, 111, 32]⟩)) rfl (by kernel_rfl) (by kernel_rfl) (by kernel_rfl) (fun _ _ _ h => h) (fun _ _ => Iff.rfl) hc (by first | rfl | simp [Region.wanted]) (fun wx hx => ?_) S0 (fun hc S0 => ?_)
          · go_simp
          try simp only [List.getElem_toArray, List.getElem_cons_succ, List.getElem_cons_zero, Act.put, List.setIfInBounds_toArray, List.set_cons_zero, List.set_cons_succ]
          refine wpAnyS_one (i := 9) rfl (by kernel_rfl) (by rfl) hc (fun K' hK => ?_)
          go_simp
          refine (HHI.out _).mono ?_
          rintro e w' ⟨rfl, rfl⟩
          refine hK.out _ _ HD.out (fun hc => ?_)
          clear hK K'
          have S0 : StillAt W5 #[] W5.drew := HD.out
          try simp only [List.getElem_toArray, List.getElem_cons_succ, List.getElem_cons_zero, Act.put, List.setIfInBounds_toArray, List.set_cons_zero, List.set_cons_succ]
          refine wpAnyS_take (i := 10) (v := .string (T ++ ⟨#[32, 110, 117, 109, 98, 101, 114, 32]⟩ ++ D1 ++ ⟨#[32, 116, 111, 32]⟩ ++ D2)) rfl (by kernel_rfl) (by kernel_rfl) (by kernel_rfl) (fun _ _ _ h => h) (fun _ _ => Iff.rfl) hc (by first | rfl | simp [Region.wanted]) (fun wx hx => ?_) S0 (fun hc S0 => ?_)
          · go_simp
          try simp only [List.getElem_toArray, List.getElem_cons_succ, List.getElem_cons_zero, Act.put, List.setIfInBounds_toArray, List.set_cons_zero, List.set_cons_succ]
          refine wpAnyS_take (i := 11) (v := .string (T ++ ⟨#[32, 110, 117, 109, 98, 101, 114, 32]⟩ ++ D1 ++ ⟨#[32, 116, 111, 32]⟩ ++ D2 ++ ⟨#[59, 10]⟩)) rfl (by kernel_rfl) (by kernel_rfl) (by kernel_rfl) (fun _ _ _ h => h) (fun _ _ => Iff.rfl) hc (by first | rfl | simp [Region.wanted]) (fun wx hx => ?_) S0 (fun hc S0 => ?_)
          · go_simp
          try simp only [List.getElem_toArray, List.getElem_cons_succ, List.getElem_cons_zero, Act.put, List.setIfInBounds_toArray, List.set_cons_zero, List.set_cons_succ]
          refine wpAnyS_take (i := 12) (v := .string (T ++ ⟨#[32, 110, 117, 109, 98, 101, 114, 32]⟩ ++ D1 ++ ⟨#[32, 116, 111, 32]⟩ ++ D2 ++ ⟨#[59, 10]⟩)) rfl (by kernel_rfl) (by kernel_rfl) (by kernel_rfl) (fun _ _ _ h => h) (fun _ _ => Iff.rfl) hc (by first | rfl | simp [Region.wanted]) (fun wx hx => ?_) S0 (fun hc S0 => ?_)
          · go_simp
          try simp only [List.getElem_toArray, List.getElem_cons_succ, List.getElem_cons_zero, Act.put, List.setIfInBounds_toArray, List.set_cons_zero, List.set_cons_succ]
          refine wpAnyS_done (by kernel_rfl) ?_ _
          clear hc S0
          go_wp2_with fail
          go_roundw
          case rel => exact ⟨k + 1, by omega, by go_num, by rw [HX.out], Below.step HB5.out HD.out⟩
          case measure => simp [RowKit.intOf]; omega
      · have hke : k = d.length := by omega
        subst hke
        go_wp2_with fail
        go_ret
        exact ⟨by rw [HE.out]; rfl, HBR.out.below⟩

end Go.Proofs.YteogmlgmodeajaaGreatDoor

namespace Go.Proofs.YteogmlgmodeajaaGreatDoor
open Go.RowKit Go.Lib Go.Maps

theorem joined_snoc : ∀ (l : List (List UInt8)) (x : List UInt8), Fa.joined (l ++ [x]) = if l = [] then x else Fa.joined l ++ [44, 32] ++ x
  | [], x => by simp [Fa.joined]
  | y :: l, x => by simp [Fa.joined]
theorem prTo_snoc {d : Fa.Dom} {c : List Int} {k : Nat} {f : Fa.Fact} {x : Int} (hf : d[k]? = some f) (hx : c[k]? = some x) : prTo d c (k + 1) = prTo d c k ++ [Fa.pairText (f, x)] := by
  unfold prTo
  rw [take_snoc (x := (f, x)) (by rw [List.getElem?_zip_eq_some]; exact ⟨hf, hx⟩)]
  simp
theorem prTo_size {d : Fa.Dom} {c : List Int} (h : Fa.fits d c = true) (k : Nat) : (Fa.joined (prTo d c k)).length ≤ 2160 := by
  obtain ⟨h1, h2, h3⟩ := Fa.fits_parts h
  have hd : d.length ≤ 60 := by
    unfold Fa.valid at h1
    simp only [Bool.and_eq_true, decide_eq_true_eq] at h1
    exact h1.2
  have hl := Fa.joined_len (ps := (d.zip c).take k) fun p hp => by
    have hm := List.mem_of_mem_take hp
    exact (Fa.Fit.ok h1 ⟨(List.of_mem_zip (a := p.1) (b := p.2) hm).1, h3 p hm⟩).1
  unfold prTo
  have : ((d.zip c).take k).length ≤ 60 := by simp; omega
  omega

set_option maxRecDepth 100000 in
set_option maxHeartbeats 8000000 in
theorem rCaseText_any (d : Fa.Dom) (c : List Int) (v vc : Value) (w : World) (h : SlOf w v 4 factC d) (hcs : SlOf w vc 1 numC c) (hn : ∀ f ∈ d, f.name.length ≤ 5000) : Calls Tryz.prog 21 #[.agg #[v], vc] w (Gives (.string (bs (Fa.caseText d c))) w) := by
  have HS := hid h
  have HC := hid hcs
  obtain ⟨W1, hW1⟩ : ∃ W1, W1 = w.alloc (.cells #[v] 24) := ⟨_, rfl⟩
  have HB1 := hid (BoxD.start h hW1)
  have HVC := hid (rFits_any d c v vc W1 HB1.out.sl (hcs.below HB1.out.below) hn)
  obtain ⟨va, cap, rfl, k1, k2, -⟩ := h
  obtain ⟨vd, cap2, rfl, k3, k4, -⟩ := hcs
  have hd2 : d.length ≤ 9223372036854775807 := by unfold maxLen at k2; omega
  have hd3 : c.length ≤ 9223372036854775807 := by unfold maxLen at k4; omega
  have c1 := HB1.out.one.cell
  have z1 := HB1.out.one.lt
  clear hn k1 k2 k3 k4
  go_enter Tryz.func21, Tryz.ntmps21
  go_upto_region 1 with (fail)
  rw [← hW1]
  clear hW1
  go_wp2_with fail
  refine (HVC.out).mono ?_
  rintro e w2 ⟨rfl, hb2⟩
  have HB2 := hid (HB1.out.step hb2)
  clear hb2 c1 z1
  have c2 := HB2.out.one.cell
  have z2 := HB2.out.one.lt
  cases hv : Fa.fits d c with
  | false =>
    have HE := hid (show bs (Fa.caseText d c) = ⟨#[]⟩ by unfold Fa.caseText; rw [hv]; rfl)
    clear hv
    go_wp2_with fail
    go_ret
    exact ⟨by rw [HE.out]; rfl, HB2.out.below⟩
  | true =>
    have HV := hid hv
    have HL := hid (Fa.fits_parts hv).2.1
    have HE := hid (show Fa.caseText d c = Fa.joined (prTo d c d.length) by
      unfold Fa.caseText prTo; rw [hv, List.take_of_length_le (by simp [HL.out])]; rfl)
    clear hv
    go_wp2_with fail
    go_loopw [5, 6] (fun sv iv wr => ∃ k : Nat, k ≤ d.length ∧ iv = .int .i64 k ∧ sv = .string (bs (Fa.joined (prTo d c k))) ∧ Hid (Below w2.heap.size w2 wr)) (fun _ iv _ => d.length - (RowKit.intOf iv).toNat)
    case atStart => exact ⟨0, Nat.zero_le _, rfl, rfl, Below.refl _ _⟩
    case round =>
      obtain ⟨k, hk, rfl, rfl, HR⟩ := hrel
      have HBR := hid (HB2.out.step HR.out)
      clear c2 z2
      have c2 := HBR.out.one.cell
      have z2 := HBR.out.one.lt
      by_cases hlt : k < d.length
      · obtain ⟨f, hf⟩ : ∃ f, d[k]? = some f := ⟨_, List.getElem?_eq_getElem hlt⟩
        obtain ⟨x, hx⟩ : ∃ x, c[k]? = some x := ⟨_, List.getElem?_eq_getElem (by rw [HL.out]; exact hlt)⟩
        obtain ⟨g, o, rfl, hg, e0, -, -, -⟩ := fact_cells HS.out hf HBR.out.below
        obtain ⟨g2, o2, rfl, hg2, y0⟩ := num_cell HC.out hx HBR.out.below
        have hk0 : (0 : Int) ≤ (k : Int) := by omega
        have hk1 : (k : Int) < (d.length : Int) := by omega
        have hk2 : (k : Int) < (c.length : Int) := by rw [HL.out]; omega
        have HP := hid (prTo_snoc hf hx)
        have hfit := Fa.Fit.ok (Fa.fits_parts HV.out).1 (p := (f, x)) ⟨List.mem_of_getElem? hf, (Fa.fits_parts HV.out).2.2 _ (by rw [List.mem_iff_getElem?]; exact ⟨k, by rw [List.getElem?_zip_eq_some]; exact ⟨hf, hx⟩⟩)⟩
        obtain ⟨⟨-, b1, b2⟩, -, -⟩ := hfit
        have b3 := (ok_bounds (Fa.fits_parts HV.out).1 (List.mem_of_getElem? hf)).1
        simp only at b1 b2
        have t1 : (bs (Fa.joined (prTo d c k))).size ≤ 2160 := by rw [bs_size]; exact prTo_size HV.out k
        have t2 : (bs f.name).size ≤ 24 := by rw [bs_size]; exact b3
        have HDC := hid (fun W => decimal1_any x b1 b2 W)
        have t3 : (bs (Lx.dec x.toNat)).size ≤ 10 := by rw [bs_size]; exact Fa.dec_len 10 (by decide) (by omega)
        obtain ⟨D, hD⟩ : ∃ D, D = bs (Lx.dec x.toNat) := ⟨_, rfl⟩
        rw [← hD] at HDC t3
        have HDD := hid hD
        clear hf hx b1 b2 b3 hD
        by_cases hk9 : k = 0
        · have hk8 : ¬ (0 : Int) < (k : Int) := by omega
          have hpn : prTo d c k = [] := by rw [hk9]; rfl
          obtain ⟨T, hT⟩ : ∃ T : ByteArray, T = bs (Fa.joined (prTo d c k)) := ⟨_, rfl⟩
          rw [← hT]
          have t4 : T.size ≤ 2162 := by rw [hT]; omega
          have HX := hid (show T ++ bs f.name ++ ⟨#[32, 61, 32]⟩ ++ D = bs (Fa.joined (prTo d c (k + 1))) from bs_ext (by
            rw [HP.out, joined_snoc, if_pos hpn, hT, HDD.out, hpn]; simp [bs, ByteArray.data_append, Fa.pairText, Fa.joined]))
          clear hpn hk9 hT t1
          go_upto_region 9 with (fail)
          have HD := hid (show Below wr.heap.size wr wr.drew from (Below.refl _ wr).drew)
          have s1 : ¬ 9223372036854775807 < T.size + (bs f.name).size := by omega
          have s2 : ¬ 9223372036854775807 < T.size + (bs f.name).size + 3 := by omega
          have s3 : ¬ 9223372036854775807 < T.size + (bs f.name).size + 3 + D.size := by omega
          refine wp_heldS (S := StillAt wr) (by kernel_rfl) ?_
          simp only [List.size_toArray, List.length_cons, List.length_nil, Nat.reduceAdd]
          intro hc
          have S0 : StillAt wr (Array.replicate 16 false) wr.drew := HD.out
          refine wpAnyS_take (i := 0) (v := .string T) rfl (by kernel_rfl) (by kernel_rfl) (by kernel_rfl) (fun _ _ _ h => h) (fun _ _ => Iff.rfl) hc (by first | rfl | simp [Region.wanted]) (fun wx hx => ?_) S0 (fun hc S0 => ?_)
          · go_simp
          try simp only [List.getElem_toArray, List.getElem_cons_zero, Act.put, List.setIfInBounds_toArray, List.set_cons_zero, List.set_cons_succ]
          refine wpAnyS_take (i := 1) (v := .pointer (some ⟨w.heap.size, 0, none⟩)) rfl (by kernel_rfl) (by kernel_rfl) (by kernel_rfl) (fun _ _ _ h => h) (fun _ _ => Iff.rfl) hc (by first | rfl | simp [Region.wanted]) (fun wx hx => ?_) S0 (fun hc S0 => ?_)
          · go_simp
          try simp only [List.getElem_toArray, List.getElem_cons_succ, List.getElem_cons_zero, Act.put, List.setIfInBounds_toArray, List.set_cons_zero, List.set_cons_succ]
          refine wpAnyS_take (i := 2) (v := .slice (some ⟨g, o, none⟩) d.length cap) rfl (by kernel_rfl) (by kernel_rfl) (by kernel_rfl) (fun _ _ _ h => h) (fun _ _ => Iff.rfl) hc (by first | rfl | simp [Region.wanted]) (fun wx hx => ?_) S0 (fun hc S0 => ?_)
          · have g := (hx.still.cell (p := ⟨w.heap.size, 0, none⟩) z2).trans c2
            go_simp
          try simp only [List.getElem_toArray, List.getElem_cons_succ, List.getElem_cons_zero, Act.put, List.setIfInBounds_toArray, List.set_cons_zero, List.set_cons_succ]
          refine wpAnyS_take (i := 3) (v := .int .i64 (k : Nat)) rfl (by kernel_rfl) (by kernel_rfl) (by kernel_rfl) (fun _ _ _ h => h) (fun _ _ => Iff.rfl) hc (by first | rfl | simp [Region.wanted]) (fun wx hx => ?_) S0 (fun hc S0 => ?_)
          · go_simp
          try simp only [List.getElem_toArray, List.getElem_cons_succ, List.getElem_cons_zero, Act.put, List.setIfInBounds_toArray, List.set_cons_zero, List.set_cons_succ]
          refine wpAnyS_take (i := 4) (v := .pointer (some ⟨g, o + k * 4, none⟩)) rfl (by kernel_rfl) (by kernel_rfl) (by kernel_rfl) (fun _ _ _ h => h) (fun _ _ => Iff.rfl) hc (by first | rfl | simp [Region.wanted]) (fun wx hx => ?_) S0 (fun hc S0 => ?_)
          · go_simp
          try simp only [List.getElem_toArray, List.getElem_cons_succ, List.getElem_cons_zero, Act.put, List.setIfInBounds_toArray, List.set_cons_zero, List.set_cons_succ]
          refine wpAnyS_take (i := 5) (v := .pointer (some ⟨g, o + k * 4, none⟩)) rfl (by kernel_rfl) (by kernel_rfl) (by kernel_rfl) (fun _ _ _ h => h) (fun _ _ => Iff.rfl) hc (by first | rfl | simp [Region.wanted]) (fun wx hx => ?_) S0 (fun hc S0 => ?_)
          · go_simp
          try simp only [List.getElem_toArray, List.getElem_cons_succ, List.getElem_cons_zero, Act.put, List.setIfInBounds_toArray, List.set_cons_zero, List.set_cons_succ]
          refine wpAnyS_take (i := 6) (v := .string (bs f.name)) rfl (by kernel_rfl) (by kernel_rfl) (by kernel_rfl) (fun _ _ _ h => h) (fun _ _ => Iff.rfl) hc (by first | rfl | simp [Region.wanted]) (fun wx hx => ?_) S0 (fun hc S0 => ?_)
          · have g := (hx.still.cell (p := ⟨g, o + k * 4, none⟩) hg).trans e0
            go_simp
          try simp only [List.getElem_toArray, List.getElem_cons_succ, List.getElem_cons_zero, Act.put, List.setIfInBounds_toArray, List.set_cons_zero, List.set_cons_succ]
          refine wpAnyS_take (i := 7) (v := .string (T ++ bs f.name)) rfl (by kernel_rfl) (by kernel_rfl) (by kernel_rfl) (fun _ _ _ h => h) (fun _ _ => Iff.rfl) hc (by first | rfl | simp [Region.wanted]) (fun wx hx => ?_) S0 (fun hc S0 => ?_)
          · go_simp
          try simp only [List.getElem_toArray, List.getElem_cons_succ, List.getElem_cons_zero, Act.put, List.setIfInBounds_toArray, List.set_cons_zero, List.set_cons_succ]
          refine wpAnyS_take (i := 8) (v := .string (T ++ bs f.name ++ ⟨#[32, 61, 32]⟩)) rfl (by kernel_rfl) (by kernel_rfl) (by kernel_rfl) (fun _ _ _ h => h) (fun _ _ => Iff.rfl) hc (by first | rfl | simp [Region.wanted]) (fun wx hx => ?_) S0 (fun hc S0 => ?_)
          · go_simp
          try simp only [List.getElem_toArray, List.getElem_cons_succ, List.getElem_cons_zero, Act.put, List.setIfInBounds_toArray, List.set_cons_zero, List.set_cons_succ]
          refine wpAnyS_take (i := 9) (v := .slice (some ⟨g2, o2, none⟩) c.length cap2) rfl (by kernel_rfl) (by kernel_rfl) (by kernel_rfl) (fun _ _ _ h => h) (fun _ _ => Iff.rfl) hc (by first | rfl | simp [Region.wanted]) (fun wx hx => ?_) S0 (fun hc S0 => ?_)
          · go_simp
          try simp only [List.getElem_toArray, List.getElem_cons_succ, List.getElem_cons_zero, Act.put, List.setIfInBounds_toArray, List.set_cons_zero, List.set_cons_succ]
          refine wpAnyS_take (i := 10) (v := .int .i64 (k : Nat)) rfl (by kernel_rfl) (by kernel_rfl) (by kernel_rfl) (fun _ _ _ h => h) (fun _ _ => Iff.rfl) hc (by first | rfl | simp [Region.wanted]) (fun wx hx => ?_) S0 (fun hc S0 => ?_)
          · go_simp
          try simp only [List.getElem_toArray, List.getElem_cons_succ, List.getElem_cons_zero, Act.put, List.setIfInBounds_toArray, List.set_cons_zero, List.set_cons_succ]
          refine wpAnyS_take (i := 11) (v := .pointer (some ⟨g2, o2 + k, none⟩)) rfl (by kernel_rfl) (by kernel_rfl) (by kernel_rfl) (fun _ _ _ h => h) (fun _ _ => Iff.rfl) hc (by first | rfl | simp [Region.wanted]) (fun wx hx => ?_) S0 (fun hc S0 => ?_)
          · go_simp
          try simp only [List.getElem_toArray, List.getElem_cons_succ, List.getElem_cons_zero, Act.put, List.setIfInBounds_toArray, List.set_cons_zero, List.set_cons_succ]
          refine wpAnyS_take (i := 12) (v := .int .i64 x) rfl (by kernel_rfl) (by kernel_rfl) (by kernel_rfl) (fun _ _ _ h => h) (fun _ _ => Iff.rfl) hc (by first | rfl | simp [Region.wanted]) (fun wx hx => ?_) S0 (fun hc S0 => ?_)
          · have g := (hx.still.cell (p := ⟨g2, o2 + k, none⟩) hg2).trans y0
            go_simp
          try simp only [List.getElem_toArray, List.getElem_cons_succ, List.getElem_cons_zero, Act.put, List.setIfInBounds_toArray, List.set_cons_zero, List.set_cons_succ]
          refine wpAnyS_one (i := 13) rfl (by kernel_rfl) (by rfl) hc (fun K' hK => ?_)
          go_simp
          refine (HDC.out _).mono ?_
          rintro e w' ⟨rfl, rfl⟩
          refine hK.out _ _ HD.out (fun hc => ?_)
          clear hK K'
          have S0 : StillAt wr #[] wr.drew := HD.out
          try simp only [List.getElem_toArray, List.getElem_cons_succ, List.getElem_cons_zero, Act.put, List.setIfInBounds_toArray, List.set_cons_zero, List.set_cons_succ]
          refine wpAnyS_take (i := 14) (v := .string (T ++ bs f.name ++ ⟨#[32, 61, 32]⟩ ++ D)) rfl (by kernel_rfl) (by kernel_rfl) (by kernel_rfl) (fun _ _ _ h => h) (fun _ _ => Iff.rfl) hc (by first | rfl | simp [Region.wanted]) (fun wx hx => ?_) S0 (fun hc S0 => ?_)
          · go_simp
          try simp only [List.getElem_toArray, List.getElem_cons_succ, List.getElem_cons_zero, Act.put, List.setIfInBounds_toArray, List.set_cons_zero, List.set_cons_succ]
          refine wpAnyS_take (i := 15) (v := .string (T ++ bs f.name ++ ⟨#[32, 61, 32]⟩ ++ D)) rfl (by kernel_rfl) (by kernel_rfl) (by kernel_rfl) (fun _ _ _ h => h) (fun _ _ => Iff.rfl) hc (by first | rfl | simp [Region.wanted]) (fun wx hx => ?_) S0 (fun hc S0 => ?_)
          · go_simp
          try simp only [List.getElem_toArray, List.getElem_cons_succ, List.getElem_cons_zero, Act.put, List.setIfInBounds_toArray, List.set_cons_zero, List.set_cons_succ]
          refine wpAnyS_done (by kernel_rfl) ?_ _
          clear hc S0
          go_wp2_with fail
          go_roundw
          case rel => exact ⟨k + 1, by omega, by go_num, by rw [HX.out], Below.step HR.out HD.out⟩
          case measure => simp [RowKit.intOf]; omega
        · have hk8 : (0 : Int) < (k : Int) := by omega
          have hk7 : decide ((0 : Int) < (k : Int)) = true := decide_eq_true hk8
          have hpn : prTo d c k ≠ [] := by
            intro e
            have hlen : (prTo d c k).length = k := by
              unfold prTo
              rw [List.length_map, List.length_take, List.length_zip, HL.out]
              omega
            rw [e, List.length_nil] at hlen
            omega
          have HX0 := hid (fun (T : ByteArray) (hT : T = bs (Fa.joined (prTo d c k)) ++ ⟨#[44, 32]⟩) => show T ++ bs f.name ++ ⟨#[32, 61, 32]⟩ ++ D = bs (Fa.joined (prTo d c (k + 1))) from bs_ext (by
            rw [HP.out, joined_snoc, if_neg hpn, hT, HDD.out]; simp [bs, ByteArray.data_append, Fa.pairText]))
          clear hpn hk9 hk7
          go_upto_region 9 with (fail)
          obtain ⟨T, hT⟩ : ∃ T, T = bs (Fa.joined (prTo d c k)) ++ ⟨#[44, 32]⟩ := ⟨_, rfl⟩
          rw [← hT]
          have t4 : T.size ≤ 2162 := by rw [hT, ByteArray.size_append]; show _ + 2 ≤ _; omega
          have HX := hid (HX0.out T hT)
          clear hT t1 HX0
          have HD := hid (show Below wr.heap.size wr wr.drew from (Below.refl _ wr).drew)
          have s1 : ¬ 9223372036854775807 < T.size + (bs f.name).size := by omega
          have s2 : ¬ 9223372036854775807 < T.size + (bs f.name).size + 3 := by omega
          have s3 : ¬ 9223372036854775807 < T.size + (bs f.name).size + 3 + D.size := by omega
          refine wp_heldS (S := StillAt wr) (by kernel_rfl) ?_
          simp only [List.size_toArray, List.length_cons, List.length_nil, Nat.reduceAdd]
          intro hc
          have S0 : StillAt wr (Array.replicate 16 false) wr.drew := HD.out
          refine wpAnyS_take (i := 0) (v := .string T) rfl (by kernel_rfl) (by kernel_rfl) (by kernel_rfl) (fun _ _ _ h => h) (fun _ _ => Iff.rfl) hc (by first | rfl | simp [Region.wanted]) (fun wx hx => ?_) S0 (fun hc S0 => ?_)
          · go_simp
          try simp only [List.getElem_toArray, List.getElem_cons_zero, Act.put, List.setIfInBounds_toArray, List.set_cons_zero, List.set_cons_succ]
          refine wpAnyS_take (i := 1) (v := .pointer (some ⟨w.heap.size, 0, none⟩)) rfl (by kernel_rfl) (by kernel_rfl) (by kernel_rfl) (fun _ _ _ h => h) (fun _ _ => Iff.rfl) hc (by first | rfl | simp [Region.wanted]) (fun wx hx => ?_) S0 (fun hc S0 => ?_)
          · go_simp
          try simp only [List.getElem_toArray, List.getElem_cons_succ, List.getElem_cons_zero, Act.put, List.setIfInBounds_toArray, List.set_cons_zero, List.set_cons_succ]
          refine wpAnyS_take (i := 2) (v := .slice (some ⟨g, o, none⟩) d.length cap) rfl (by kernel_rfl) (by kernel_rfl) (by kernel_rfl) (fun _ _ _ h => h) (fun _ _ => Iff.rfl) hc (by first | rfl | simp [Region.wanted]) (fun wx hx => ?_) S0 (fun hc S0 => ?_)
          · have g := (hx.still.cell (p := ⟨w.heap.size, 0, none⟩) z2).trans c2
            go_simp
          try simp only [List.getElem_toArray, List.getElem_cons_succ, List.getElem_cons_zero, Act.put, List.setIfInBounds_toArray, List.set_cons_zero, List.set_cons_succ]
          refine wpAnyS_take (i := 3) (v := .int .i64 (k : Nat)) rfl (by kernel_rfl) (by kernel_rfl) (by kernel_rfl) (fun _ _ _ h => h) (fun _ _ => Iff.rfl) hc (by first | rfl | simp [Region.wanted]) (fun wx hx => ?_) S0 (fun hc S0 => ?_)
          · go_simp
          try simp only [List.getElem_toArray, List.getElem_cons_succ, List.getElem_cons_zero, Act.put, List.setIfInBounds_toArray, List.set_cons_zero, List.set_cons_succ]
          refine wpAnyS_take (i := 4) (v := .pointer (some ⟨g, o + k * 4, none⟩)) rfl (by kernel_rfl) (by kernel_rfl) (by kernel_rfl) (fun _ _ _ h => h) (fun _ _ => Iff.rfl) hc (by first | rfl | simp [Region.wanted]) (fun wx hx => ?_) S0 (fun hc S0 => ?_)
          · go_simp
          try simp only [List.getElem_toArray, List.getElem_cons_succ, List.getElem_cons_zero, Act.put, List.setIfInBounds_toArray, List.set_cons_zero, List.set_cons_succ]
          refine wpAnyS_take (i := 5) (v := .pointer (some ⟨g, o + k * 4, none⟩)) rfl (by kernel_rfl) (by kernel_rfl) (by kernel_rfl) (fun _ _ _ h => h) (fun _ _ => Iff.rfl) hc (by first | rfl | simp [Region.wanted]) (fun wx hx => ?_) S0 (fun hc S0 => ?_)
          · go_simp
          try simp only [List.getElem_toArray, List.getElem_cons_succ, List.getElem_cons_zero, Act.put, List.setIfInBounds_toArray, List.set_cons_zero, List.set_cons_succ]
          refine wpAnyS_take (i := 6) (v := .string (bs f.name)) rfl (by kernel_rfl) (by kernel_rfl) (by kernel_rfl) (fun _ _ _ h => h) (fun _ _ => Iff.rfl) hc (by first | rfl | simp [Region.wanted]) (fun wx hx => ?_) S0 (fun hc S0 => ?_)
          · have g := (hx.still.cell (p := ⟨g, o + k * 4, none⟩) hg).trans e0
            go_simp
          try simp only [List.getElem_toArray, List.getElem_cons_succ, List.getElem_cons_zero, Act.put, List.setIfInBounds_toArray, List.set_cons_zero, List.set_cons_succ]
          refine wpAnyS_take (i := 7) (v := .string (T ++ bs f.name)) rfl (by kernel_rfl) (by kernel_rfl) (by kernel_rfl) (fun _ _ _ h => h) (fun _ _ => Iff.rfl) hc (by first | rfl | simp [Region.wanted]) (fun wx hx => ?_) S0 (fun hc S0 => ?_)
          · go_simp
          try simp only [List.getElem_toArray, List.getElem_cons_succ, List.getElem_cons_zero, Act.put, List.setIfInBounds_toArray, List.set_cons_zero, List.set_cons_succ]
          refine wpAnyS_take (i := 8) (v := .string (T ++ bs f.name ++ ⟨#[32, 61, 32]⟩)) rfl (by kernel_rfl) (by kernel_rfl) (by kernel_rfl) (fun _ _ _ h => h) (fun _ _ => Iff.rfl) hc (by first | rfl | simp [Region.wanted]) (fun wx hx => ?_) S0 (fun hc S0 => ?_)
          · go_simp
          try simp only [List.getElem_toArray, List.getElem_cons_succ, List.getElem_cons_zero, Act.put, List.setIfInBounds_toArray, List.set_cons_zero, List.set_cons_succ]
          refine wpAnyS_take (i := 9) (v := .slice (some ⟨g2, o2, none⟩) c.length cap2) rfl (by kernel_rfl) (by kernel_rfl) (by kernel_rfl) (fun _ _ _ h => h) (fun _ _ => Iff.rfl) hc (by first | rfl | simp [Region.wanted]) (fun wx hx => ?_) S0 (fun hc S0 => ?_)
          · go_simp
          try simp only [List.getElem_toArray, List.getElem_cons_succ, List.getElem_cons_zero, Act.put, List.setIfInBounds_toArray, List.set_cons_zero, List.set_cons_succ]
          refine wpAnyS_take (i := 10) (v := .int .i64 (k : Nat)) rfl (by kernel_rfl) (by kernel_rfl) (by kernel_rfl) (fun _ _ _ h => h) (fun _ _ => Iff.rfl) hc (by first | rfl | simp [Region.wanted]) (fun wx hx => ?_) S0 (fun hc S0 => ?_)
          · go_simp
          try simp only [List.getElem_toArray, List.getElem_cons_succ, List.getElem_cons_zero, Act.put, List.setIfInBounds_toArray, List.set_cons_zero, List.set_cons_succ]
          refine wpAnyS_take (i := 11) (v := .pointer (some ⟨g2, o2 + k, none⟩)) rfl (by kernel_rfl) (by kernel_rfl) (by kernel_rfl) (fun _ _ _ h => h) (fun _ _ => Iff.rfl) hc (by first | rfl | simp [Region.wanted]) (fun wx hx => ?_) S0 (fun hc S0 => ?_)
          · go_simp
          try simp only [List.getElem_toArray, List.getElem_cons_succ, List.getElem_cons_zero, Act.put, List.setIfInBounds_toArray, List.set_cons_zero, List.set_cons_succ]
          refine wpAnyS_take (i := 12) (v := .int .i64 x) rfl (by kernel_rfl) (by kernel_rfl) (by kernel_rfl) (fun _ _ _ h => h) (fun _ _ => Iff.rfl) hc (by first | rfl | simp [Region.wanted]) (fun wx hx => ?_) S0 (fun hc S0 => ?_)
          · have g := (hx.still.cell (p := ⟨g2, o2 + k, none⟩) hg2).trans y0
            go_simp
          try simp only [List.getElem_toArray, List.getElem_cons_succ, List.getElem_cons_zero, Act.put, List.setIfInBounds_toArray, List.set_cons_zero, List.set_cons_succ]
          refine wpAnyS_one (i := 13) rfl (by kernel_rfl) (by rfl) hc (fun K' hK => ?_)
          go_simp
          refine (HDC.out _).mono ?_
          rintro e w' ⟨rfl, rfl⟩
          refine hK.out _ _ HD.out (fun hc => ?_)
          clear hK K'
          have S0 : StillAt wr #[] wr.drew := HD.out
          try simp only [List.getElem_toArray, List.getElem_cons_succ, List.getElem_cons_zero, Act.put, List.setIfInBounds_toArray, List.set_cons_zero, List.set_cons_succ]
          refine wpAnyS_take (i := 14) (v := .string (T ++ bs f.name ++ ⟨#[32, 61, 32]⟩ ++ D)) rfl (by kernel_rfl) (by kernel_rfl) (by kernel_rfl) (fun _ _ _ h => h) (fun _ _ => Iff.rfl) hc (by first | rfl | simp [Region.wanted]) (fun wx hx => ?_) S0 (fun hc S0 => ?_)
          · go_simp
          try simp only [List.getElem_toArray, List.getElem_cons_succ, List.getElem_cons_zero, Act.put, List.setIfInBounds_toArray, List.set_cons_zero, List.set_cons_succ]
          refine wpAnyS_take (i := 15) (v := .string (T ++ bs f.name ++ ⟨#[32, 61, 32]⟩ ++ D)) rfl (by kernel_rfl) (by kernel_rfl) (by kernel_rfl) (fun _ _ _ h => h) (fun _ _ => Iff.rfl) hc (by first | rfl | simp [Region.wanted]) (fun wx hx => ?_) S0 (fun hc S0 => ?_)
          · go_simp
          try simp only [List.getElem_toArray, List.getElem_cons_succ, List.getElem_cons_zero, Act.put, List.setIfInBounds_toArray, List.set_cons_zero, List.set_cons_succ]
          refine wpAnyS_done (by kernel_rfl) ?_ _
          clear hc S0
          go_wp2_with fail
          go_roundw
          case rel => exact ⟨k + 1, by omega, by go_num, by rw [HX.out], Below.step HR.out HD.out⟩
          case measure => simp [RowKit.intOf]; omega
      · have hke : k = d.length := by omega
        subst hke
        have hk2 : ¬ ((d.length : Nat) : Int) < (c.length : Int) := by rw [HL.out]; omega
        go_wp2_with fail
        go_ret
        exact ⟨by rw [HE.out]; rfl, HBR.out.below⟩

set_option maxRecDepth 100000 in
set_option maxHeartbeats 4000000 in
theorem rLeast_any (d : Fa.Dom) (v : Value) (w : World) (h : SlOf w v 4 factC d) (hn : ∀ f ∈ d, f.name.length ≤ 5000) (hd : d.length ≤ 5000) : Calls Tryz.prog 25 #[.agg #[v]] w (NumsP (Fa.least d) w) := by
  obtain ⟨i0, hi, hz0, hz1, hz2⟩ := info_parts Tryz.infoInt
  have HS := hid h
  obtain ⟨W1, hW1⟩ : ∃ W1, W1 = w.alloc (.cells #[v] 24) := ⟨_, rfl⟩
  have HB1 := hid (BoxD.start h hW1)
  have HVC := hid (rValid_any d v W1 HB1.out.sl hn)
  obtain ⟨va, cap, rfl, k1, k2, -⟩ := h
  have hd2 : d.length ≤ 9223372036854775807 := by omega
  have hd3 : d.length ≤ 5000 := hd
  have c1 := HB1.out.one.cell
  have z1 := HB1.out.one.lt
  clear hn hd k1 k2
  go_enter Tryz.func25, Tryz.ntmps25
  go_upto_region 1 with (fail)
  rw [← hW1]
  clear hW1
  go_wp2_with fail
  refine (HVC.out).mono ?_
  rintro e w2 ⟨rfl, hb2⟩
  have HB2 := hid (HB1.out.step hb2)
  clear hb2 c1 z1
  have c2 := HB2.out.one.cell
  have z2 := HB2.out.one.lt
  have HC2 := hid c2
  cases hv : Fa.valid d with
  | false =>
    have HE := hid (least_eq hv)
    clear hv
    go_wp2_with fail
    go_ret
    rw [HE.out]
    exact ⟨_, rfl, World.ownsRow_nil _ _ _ _, HB2.out.below⟩
  | true =>
    have HE := hid (least_eq hv)
    clear hv
    go_wp2_with fail
    go_loopw [3, 4] (fun vo iv wr => ∃ k : Nat, k ≤ d.length ∧ iv = .int .i64 k ∧ Hid (wr.ownsRow (w.heap.size + 1) 3 1 vo k (((d.take k).map Fa.Fact.lo).flatMap numC)) ∧ Hid (Below (w.heap.size + 1) w2 wr)) (fun _ iv _ => d.length - (RowKit.intOf iv).toNat)
    case atStart => exact ⟨0, Nat.zero_le _, rfl, World.ownsRow_nil _ _ _ _, Below.refl _ _⟩
    case round =>
      obtain ⟨k, hk, rfl, hown, hb⟩ := hrel
      have HBR := hid (HB2.out.below.trans (hb.out.mono (by omega)))
      have hz2 := z2
      clear c2 z2
      have c2 : wr.cell? ⟨w.heap.size, 0, none⟩ = some (.slice va d.length cap) := (hb.out.cell (p := ⟨w.heap.size, 0, none⟩) (Nat.lt_succ_self _)).trans HC2.out
      have z2 : w.heap.size < wr.heap.size := Nat.lt_of_lt_of_le hz2 hb.out.size
      clear hz2
      by_cases hlt : k < d.length
      · obtain ⟨f, hf⟩ : ∃ f, d[k]? = some f := ⟨_, List.getElem?_eq_getElem hlt⟩
        obtain ⟨g, o, rfl, hg, e0, e1, e2, e3⟩ := fact_cells HS.out hf HBR.out
        have hk0 : (0 : Int) ≤ (k : Int) := by omega
        have hk1 : (k : Int) < (d.length : Int) := by omega
        have hown5 := hid (hown.out.alloc (.cells #[.int .i64 f.lo] 3))
        have HSN := hid (show ((d.take (k + 1)).map Fa.Fact.lo).flatMap numC = ((d.take k).map Fa.Fact.lo).flatMap numC ++ [.int .i64 f.lo] by rw [take_snoc hf]; simp [numC])
        clear hf e0 e1 e3
        go_wp2_with (at_builtin; refine wpList_append_own _ rfl _ _ 26 rfl (w.heap.size + 1) 3 i0 (.int .i64 0) 1 8 Tryz.underlying26 hi hz0 hz1 hz2 rfl (by decide) _ _ _ rfl hown5.out ⟨wr.heap.size, 0, none⟩ 1 1 [.int .i64 f.lo] rfl rfl (cell_one_new _ _ _) (by simp [Value.oneCell']) (by unfold maxLen; omega) (by omega) (by simp; omega) ?_; intro v' w4 ho4 hg4 _)
        go_roundw
        case rel =>
          refine ⟨k + 1, by omega, by go_num, by rw [HSN.out]; exact ho4, Below.appended (hb.out.alloc (by have := hb.out.size; omega) _) hg4 (by simp; omega) hown5.out⟩
        case measure => simp [RowKit.intOf]; omega
      · have hke : k = d.length := by omega
        subst hke
        have HW := hid (show wr.ownsRow (w.heap.size + 1) 3 1 _ d.length ((d.map Fa.Fact.lo).flatMap numC) from by have := hown.out; rw [List.take_length] at this; exact this)
        obtain ⟨ra, rc, hrv⟩ := ownsRow_slice HW.out
        clear hown hb
        subst hrv
        go_wp2_with fail
        go_ret
        refine ⟨_, rfl, ?_, HBR.out⟩
        rw [HE.out]
        simp only [if_true, List.length_map]
        exact ownsRow_base HW.out (Nat.le_succ _)

end Go.Proofs.YteogmlgmodeajaaGreatDoor

namespace Go.Proofs.YteogmlgmodeajaaGreatDoor
open Go.RowKit Go.Lib Go.Maps

set_option maxRecDepth 100000 in
set_option maxHeartbeats 8000000 in
theorem rNext_any (d : Fa.Dom) (c : List Int) (v vc : Value) (w : World) (h : SlOf w v 4 factC d) (hcs : SlOf w vc 1 numC c) (hn : ∀ f ∈ d, f.name.length ≤ 5000) (hd : d.length ≤ 5000) :
    Calls Tryz.prog 11 #[.agg #[v], vc] w (NextP (Fa.next d c) w) := by
  obtain ⟨i0, hi, hz0, hz1, hz2⟩ := info_parts Tryz.infoInt
  have HS := hid h
  have HC := hid hcs
  obtain ⟨W1, hW1⟩ : ∃ W1, W1 = w.alloc (.cells #[v] 24) := ⟨_, rfl⟩
  have HB1' := hid (BoxD.start h hW1)
  have HVC := hid (rFits_any d c v vc W1 HB1'.out.sl (hcs.below HB1'.out.below) hn)
  obtain ⟨va, cap, rfl, k1, k2, -⟩ := h
  obtain ⟨vd, cap2, rfl, k3, k4, k5⟩ := hcs
  have hd2 : d.length ≤ 9223372036854775807 := by omega
  have hd5 : d.length ≤ 5000 := hd
  have c1 := HB1'.out.one.cell
  have z1 := HB1'.out.one.lt
  have HK5 := hid k5
  clear hn hd k1 k2 k3 k4 k5
  go_enter Tryz.func11, Tryz.ntmps11
  go_upto_region 1 with (fail)
  rw [← hW1]
  clear hW1
  go_wp2_with fail
  refine (HVC.out).mono ?_
  rintro e w2 ⟨rfl, hb2⟩
  have HBX := hid (HB1'.out.step hb2)
  clear hb2 c1 z1
  have c2 := HBX.out.one.cell
  have hz2' := HBX.out.one.lt
  have HC2 := hid c2
  have HB2 := hid HBX.out.below
  cases hv : Fa.fits d c with
  | false =>
    have HE := hid (show Fa.next d c = none by unfold Fa.next; rw [hv]; rfl)
    clear hv
    go_wp2_with fail
    go_ret2
    rw [HE.out]
    exact ⟨rfl, HB2.out⟩
  | true =>
    have HV := hid hv
    have HL := hid (Fa.fits_parts hv).2.1
    have HR := hid (Fa.fits_parts hv)
    clear hv
    have hc5 : c.length ≤ 5000 := by rw [HL.out]; exact hd5
    have hd3 : c.length ≤ 9223372036854775807 := by omega
    have hzw : w.heap.size < w2.heap.size := hz2'
    cases vd with
    | none =>
      have hc0 : c = [] := by
        by_cases h0 : 0 < c.length
        · obtain ⟨g, o, e, hr⟩ := HK5.out h0
          cases e
        · exact List.length_eq_zero_iff.1 (by omega)
      subst hc0
      have hd0 : d = [] := List.length_eq_zero_iff.1 (by have := HL.out; simpa using this.symm)
      subst hd0
      have HE := hid (show Fa.next [] [] = none by decide)
      go_wp2_with fail
      go_loop [7] (fun iv => iv = .int .i64 (-1)) (fun _ => 0)
      case atStart => rfl
      case round =>
        subst hrel
        go_wp2_with fail
        go_ret2
        rw [HE.out]
        exact ⟨rfl, Below.step HB2.out (below_new w2 _)⟩
    | some ad =>
      have HCC := hid (show ∀ j u, (c.flatMap numC)[j]? = some u → (w2.alloc (.cells #[] 3)).cell? (ad.add j) = some u by
        by_cases h0 : 0 < c.length
        · obtain ⟨g, o, e, hr⟩ := HK5.out h0
          cases e
          exact flatCells (cells := numC) (sz := 1) (fun x => rfl) (hr.below (Below.step HB2.out (below_new w2 (.cells #[] 3))))
        · have : c = [] := List.length_eq_zero_iff.1 (by omega)
          subst this
          intro j u hu
          simp at hu)
      have hown : (w2.alloc (.cells #[] 3)).ownsRow w2.heap.size 3 1 (.slice (some ⟨w2.heap.size, 0, none⟩) 0 0) 0 [] := World.ownsRow_made w2 #[] 0 (Nat.le_refl _) (by unfold maxLen; omega) rfl
      have hb : Below w2.heap.size w2 (w2.alloc (.cells #[] 3)) := below_new w2 _
      have HFL := hid (flatLen (cells := numC) (sz := 1) c (fun x => rfl))
      have hwi : ∀ k : Nat, k ≤ d.length → IntKind.i64.wrap ((k : Int) - 1) = (k : Int) - 1 := fun k hk => IntWalk.i64_in _ (by omega)
      have hcl : (c.length : Int) = (d.length : Int) := by rw [HL.out]
      have HWI := hid hwi
      have hw0 := hwi d.length (Nat.le_refl _)
      rw [← hcl] at hw0
      clear hwi c2
      go_wp2_with (at_builtin; refine wpList_append_own _ rfl _ _ 26 rfl w2.heap.size 3 i0 (.int .i64 0) 1 8 Tryz.underlying26 hi hz0 hz1 hz2 rfl (by decide) _ _ _ rfl hown ad c.length cap2 (c.flatMap numC) rfl HFL.out HCC.out (num_one c) (by unfold maxLen; omega) (by omega) (by simp) ?_; intro v' w3 ho hg _; obtain ⟨ao, co, rfl⟩ := ownsRow_slice ho)
      rw [Nat.zero_add, List.nil_append] at ho
      have HN3 := hid (show NextS d c w2 (.slice ao c.length co) d.length w3 from ⟨by rw [Fa.mid_all HL.out]; exact ho, Below.appended hb hg (by simp) hown, fun j q hj hq => by
        have := (List.getElem?_eq_some_iff.1 hq).1
        simp at this
        omega⟩)
      clear ho hg hb hown hw0
      go_loopw [7] (fun iv wr => ∃ k : Nat, k ≤ d.length ∧ iv = .int .i64 ((k : Int) - 1) ∧ Hid (NextS d c w2 (.slice ao c.length co) k wr)) (fun iv _ => (RowKit.intOf iv + 1).toNat)
      case atStart => exact ⟨d.length, Nat.le_refl _, rfl, HN3⟩
      case round =>
        obtain ⟨k, hk, rfl, HK⟩ := hrel
        have c2 : wr.cell? ⟨w.heap.size, 0, none⟩ = some (.slice va d.length cap) := (HK.out.below.cell (p := ⟨w.heap.size, 0, none⟩) hzw).trans HC2.out
        have hzr : w.heap.size < wr.heap.size := Nat.lt_of_lt_of_le hzw HK.out.below.size
        have HBR := hid (HB2.out.trans (HK.out.below.mono HB2.out.size))
        cases k with
        | zero =>
          have HE := hid (Fa.next_miss HV.out fun j q hq => HK.out.his j q (Nat.zero_le _) hq)
          clear hcl
          go_wp2_with fail
          go_ret2
          rw [HE.out]
          exact ⟨rfl, HBR.out⟩
        | succ k =>
          have hk1 : ((k + 1 : Nat) : Int) - 1 = (k : Int) := by omega
          rw [hk1]
          have hlt : k < d.length := by omega
          obtain ⟨f, hf⟩ : ∃ f, d[k]? = some f := ⟨_, List.getElem?_eq_getElem hlt⟩
          obtain ⟨x, hx⟩ : ∃ x, c[k]? = some x := ⟨_, List.getElem?_eq_getElem (by rw [HL.out]; exact hlt)⟩
          obtain ⟨g, o, rfl, hg, e0, e1, e2, e3⟩ := fact_cells HS.out hf HBR.out
          obtain ⟨g5, o5, hE5, hg5, y5⟩ := num_cell HC.out hx HBR.out
          cases hE5
          obtain ⟨g3, rfl, hg3, hg4, hco, y0, y1⟩ := own_cell HK.out.own (Fa.mid_get HL.out hx)
          have hk0 : (0 : Int) ≤ (k : Int) := by omega
          have hk2 : (k : Int) < (d.length : Int) := by omega
          have hk3 : (k : Int) < (c.length : Int) := by omega
          have hxb : x ≤ 1000000 ∧ 0 ≤ x := by
            have := (Fa.Fit.ok HR.out.1 (p := (f, x)) ⟨List.mem_of_getElem? hf, HR.out.2.2 _ (by rw [List.mem_iff_getElem?]; exact ⟨k, by rw [List.getElem?_zip_eq_some]; exact ⟨hf, hx⟩⟩)⟩).1
            exact ⟨this.2.2, this.2.1⟩
          have hwx : IntKind.i64.wrap (x + 1) = x + 1 := IntWalk.i64_in _ (by omega)
          have hwk : IntKind.i64.wrap ((k : Int) - 1) = (k : Int) - 1 := IntWalk.i64_in _ (by omega)
          have HF := hid hf
          have HX := hid hx
          clear hf hx hcl hk1 hxb
          by_cases q1 : x < f.hi
          · have d1 : decide (x < f.hi) = true := decide_eq_true q1
            have HE := hid (Fa.next_hit HV.out HF.out HX.out q1 fun j q hj hq => HK.out.his j q hj hq)
            clear q1
            go_upto_region 7 with (fail)
            go_quiet (fail)
            go_wp2_with fail
            go_ret2
            have hnl : ((Fa.mid d c (k + 1)).set k (x + 1)).length = c.length := by rw [List.length_set, Fa.mid_len HL.out (by omega), HL.out]
            rw [HE.out]
            refine ⟨_, rfl, ?_, ?_⟩
            · rw [hnl]
              exact ownsRow_base (ownsRow_below (own_set HK.out.own k (x + 1)) (Below.drewQ _ _)) HB2.out.size
            · exact Below.step (HBR.out.setCell (Nat.le_trans HB2.out.size hg3) _) (Below.drewQ _ _)
          · have d1 : decide (x < f.hi) = false := decide_eq_false q1
            have HK1 := hid (hiTo_step HF.out HX.out HK.out.his q1)
            have HM := hid (Fa.mid_set HL.out HF.out)
            clear q1
            go_upto_region 7 with (fail)
            go_quiet (fail)
            go_wp2_with fail
            go_roundw
            case rel =>
              refine ⟨k, by omega, rfl, ?_, ?_, HK1.out⟩
              · rw [← HM.out]
                exact ownsRow_below (own_set HK.out.own k f.lo) (Below.drewQ _ _)
              · exact Below.step (HK.out.below.setCell hg3 _) (Below.drewQ _ _)
            case measure => simp [RowKit.intOf]

end Go.Proofs.YteogmlgmodeajaaGreatDoor
