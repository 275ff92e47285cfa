/-
  fact.Valid, fact.Fits. Conditions: lengths of names and of the domain.
-/
import Derived.Test.YteogmlgmodeajaaGreatDoorZFa1
import Derived.Deep.Cut
import Derived.Deep.CutRange
import Derived.BigQuiet
namespace Go.Proofs.YteogmlgmodeajaaGreatDoor
open Go.RowKit Go.Maps

theorem valid_no {d : Fa.Dom} {f : Fa.Fact} (hf : f ∈ d) (h : (Fa.okKind f && Fa.nm f.name) = false) : Fa.valid d = false := by
  rw [Bool.eq_false_iff]; intro e
  unfold Fa.valid at e
  simp only [Bool.and_eq_true, List.all_eq_true] at e
  have := e.1.1 f hf
  rw [this.1, this.2] at h
  cases h
theorem valid_twice {d : Fa.Dom} {k : Nat} {f : Fa.Fact} (hf : d[k]? = some f) (h : f.name ∈ (d.take k).map Fa.Fact.name) : Fa.valid d = false := by
  rw [Bool.eq_false_iff]; intro e
  unfold Fa.valid at e
  simp only [Bool.and_eq_true, decide_eq_true_eq] at e
  have hd := e.1.2
  rw [← List.take_append_drop k d, List.map_append, List.nodup_append] at hd
  refine hd.2.2 _ h f.name ?_ rfl
  rw [drop_cons hf]
  simp
/-- so far it is valid -/
def vTo (d : Fa.Dom) (k : Nat) : Prop := (∀ f ∈ d.take k, (Fa.okKind f && Fa.nm f.name) = true) ∧ ((d.take k).map Fa.Fact.name).Nodup
theorem vTo_step {d : Fa.Dom} {k : Nat} {f : Fa.Fact} (hf : d[k]? = some f) (h : vTo d k) (h1 : (Fa.okKind f && Fa.nm f.name) = true) (h2 : f.name ∉ (d.take k).map Fa.Fact.name) : vTo d (k + 1) := by
  unfold vTo
  rw [take_snoc hf]
  refine ⟨fun x hx => ?_, ?_⟩
  · rcases List.mem_append.1 hx with hx | hx
    · exact h.1 x hx
    · simp at hx; subst hx; exact h1
  · rw [List.map_append, List.nodup_append]
    refine ⟨h.2, by simp, fun x hx y hy e => ?_⟩
    simp at hy
    subst hy; subst e
    exact h2 hx
theorem vTo_end {d : Fa.Dom} (h : vTo d d.length) : Fa.valid d = decide (d.length ≤ 60) := by
  unfold Fa.valid
  unfold vTo at h
  rw [List.take_length] at h
  rw [List.all_eq_true.2 h.1, decide_eq_true h.2]
  rfl

/-- a flag's kind and range -/
def flB (f : Fa.Fact) : Bool := decide (f.kind = 1) && decide (f.lo = 0) && decide (f.hi = 1)
/-- a number's -/
def nuB (f : Fa.Fact) : Bool := decide (f.kind = 2) && decide (0 ≤ f.lo) && decide (f.lo ≤ f.hi) && decide (f.hi ≤ 1000000)

/-- what stands there in a round of Valid -/
structure VW (w W2 wr : World) (mb k : Nat) (d : Fa.Dom) : Prop where
  map : MapF wr Tryz.prog 9 mb k (seenF ((d.take k).map Fa.Fact.name))
  tch : Tch (fun x => x = mb) W2 wr

set_option maxRecDepth 100000 in
set_option maxHeartbeats 4000000 in
theorem factValid_any (d : Fa.Dom) (v : Value) (w : World) (h : SlOf w v 4 factC d) (hn : ∀ f ∈ d, f.name.length ≤ 5000) (hd : d.length ≤ 5000) : Calls Tryz.prog 12 #[.agg #[v]] w (Gives (.bool (Fa.valid d)) w) := by
  have hmm := @run_makeMap Tryz.prog
  have HSL := hid h
  have HNM := hid hn
  obtain ⟨W1, hW1⟩ : ∃ W1, W1 = w.alloc (.cells #[v] 24) := ⟨_, rfl⟩
  have hb1 : Below w.heap.size w W1 := by rw [hW1]; exact (Below.refl _ w).alloc (Nat.le_refl _) _
  have hs1 : W1.heap[w.heap.size]? = some (.cells #[v] 24 (0, 0)) := by rw [hW1]; exact alloc_new w _
  obtain ⟨W2, hW2⟩ : ∃ W2, W2 = W1.alloc (.map #[] 0) := ⟨_, rfl⟩
  have hb2 : Below w.heap.size w W2 := by rw [hW2]; exact Below.step hb1 ((Below.refl _ W1).alloc (Nat.le_refl _) _)
  have hs2 : W2.heap[w.heap.size]? = some (.cells #[v] 24 (0, 0)) := by rw [hW2, Below.heap_alloc _ _ _ (Array.getElem?_eq_some_iff.1 hs1).1]; exact hs1
  have hM : MapF W2 Tryz.prog 9 W1.heap.size 0 (seenF []) := by rw [hW2, seen_nil]; exact MapF.made W1 _ _
  have hmz : w.heap.size < W1.heap.size := (Array.getElem?_eq_some_iff.1 hs1).1
  obtain ⟨mb, hmb⟩ : ∃ mb, mb = w.heap.size + 1 := ⟨_, rfl⟩
  rw [show W1.heap.size = w.heap.size + 1 by rw [hW1, World.size_alloc], ← hmb] at hM hmz
  obtain ⟨va, cap, rfl, k1, k2, -⟩ := h
  have c0 : W2.cell? ⟨w.heap.size, 0, none⟩ = some (.slice va d.length cap) := by simp [World.cell?, hs2]
  have hz2 : w.heap.size < W2.heap.size := (Array.getElem?_eq_some_iff.1 hs2).1
  have HC0 := hid c0
  have HVW : Hid (VW w W2 W2 mb 0 d) := ⟨hM, Tch.refl _ _⟩
  have HBL : Hid (∀ wr, Tch (fun x => x = mb) W2 wr → Below w.heap.size w wr) := fun wr ht => hb2.trans (ht.below hb2.size (fun k e => by have e' : k = mb := e; omega))
  have hd2 : d.length ≤ 9223372036854775807 := by omega
  clear hb1 hs1 hb2 hs2 hM hn
  go_enter Tryz.func12, Tryz.ntmps12
  go_wp2_with fail
  rw [← hW1, ← hW2, ← hmb]
  clear hW1 hW2 hmb
  go_loopw [12] (fun iv wr => ∃ k : Nat, k ≤ d.length ∧ iv = .int .i64 k ∧ Hid (vTo d k) ∧ Hid (VW w W2 wr mb k d)) (fun iv _ => d.length - (intOf iv).toNat)
  case atStart => exact ⟨0, Nat.zero_le _, rfl, by simp [Hid, vTo], HVW⟩
  case round =>
    obtain ⟨k, hk, rfl, HV, HW⟩ := hrel
    clear c0
    have c0 : wr.cell? ⟨w.heap.size, 0, none⟩ = some (.slice va d.length cap) := (World.cell?_of_block (a := ⟨w.heap.size, 0, none⟩) (HW.out.tch.block _ hz2 (by show ¬ w.heap.size = mb; omega))).trans HC0.out
    have hzr : w.heap.size < wr.heap.size := Nat.lt_of_lt_of_le hz2 HW.out.tch.size
    by_cases hlt : k < d.length
    · obtain ⟨a', cap', ea, _, _, h4⟩ := HSL.out
      cases ea
      obtain ⟨g, o, rfl, hr⟩ := h4 (by omega)
      obtain ⟨f, hf⟩ : ∃ f, d[k]? = some f := ⟨_, List.getElem?_eq_getElem hlt⟩
      have hc := (hr.below (HBL.out _ HW.out.tch)).2 k f hf
      have e0 := hc 0 _ rfl
      have e1 := hc 1 _ rfl
      have e2 := hc 2 _ rfl
      have e3 := hc 3 _ rfl
      rw [Nat.add_zero] at e0
      have hg := (hr.below (HBL.out _ HW.out.tch)).1
      have hk0 : (0 : Int) ≤ (k : Int) := by omega
      have hk1 : (k : Int) < (d.length : Int) := by omega
      have HF := hid hf
      have HFM := hid (List.mem_of_getElem? hf)
      have HNL := hid (HNM.out f (List.mem_of_getElem? hf))
      obtain ⟨W5, hW5⟩ : ∃ W5, W5 = wr.alloc (.cells #[.string (bs f.name), .int .i64 f.kind, .int .i64 f.lo, .int .i64 f.hi] 62) := ⟨_, rfl⟩
      have hb5 : Below wr.heap.size wr W5 := by rw [hW5]; exact (Below.refl _ wr).alloc (Nat.le_refl _) _
      have hs5 : W5.heap[wr.heap.size]? = some (.cells #[.string (bs f.name), .int .i64 f.kind, .int .i64 f.lo, .int .i64 f.hi] 62 (0, 0)) := by rw [hW5]; exact alloc_new wr _
      have x0 : W5.cell? ⟨wr.heap.size, 0, none⟩ = some (.string (bs f.name)) := by simp [World.cell?, hs5]
      have x1 : W5.cell? ⟨wr.heap.size, 1, none⟩ = some (.int .i64 f.kind) := by simp [World.cell?, hs5]
      have x2 : W5.cell? ⟨wr.heap.size, 2, none⟩ = some (.int .i64 f.lo) := by simp [World.cell?, hs5]
      have x3 : W5.cell? ⟨wr.heap.size, 3, none⟩ = some (.int .i64 f.hi) := by simp [World.cell?, hs5]
      have hxz : wr.heap.size < W5.heap.size := (Array.getElem?_eq_some_iff.1 hs5).1
      have HB5 := hid hb5
      clear hc hr h4 hf
      go_upto_region 5 with (fail)
      rw [← hW5]
      clear hW5 hb5 hs5 e0 e1 e2 e3
      go_cut [6, 12] from 12 to 70 (fun v6 v12 wx => v6 = .bool (flB f) ∧ v12 = .int .i64 k ∧ wx = W5)
      case first =>
        have HO := hid (show flB f = (decide (f.kind = 1) && decide (f.lo = 0) && decide (f.hi = 1)) from rfl)
        by_cases q1 : f.kind = 1
        · have t1 : (f.kind == 1) = true := by rw [q1]; rfl
          by_cases q2 : f.lo = 0
          · have t3 : (f.lo == 0) = true := by rw [q2]; rfl
            by_cases q3 : f.hi = 1
            · have t4 : (f.hi == 1) = true := by rw [q3]; rfl
              have HR := hid (show true = flB f by rw [HO.out]; simp [q1, q2, q3])
              clear q1 q2 q3
              go_wp2
              go_meet
              case rel => exact ⟨congrArg Value.bool HR.out, rfl, rfl⟩
            · have t4 : (f.hi == 1) = false := by rw [beq_eq_false_iff_ne]; exact q3
              have HR := hid (show false = flB f by rw [HO.out]; simp [q3])
              clear q1 q2 q3
              go_wp2
              go_meet
              case rel => exact ⟨congrArg Value.bool HR.out, rfl, rfl⟩
          · have t3 : (f.lo == 0) = false := by rw [beq_eq_false_iff_ne]; exact q2
            have HR := hid (show false = flB f by rw [HO.out]; simp [q2])
            clear q1 q2
            go_wp2
            go_meet
            case rel => exact ⟨congrArg Value.bool HR.out, rfl, rfl⟩
        · have t1 : (f.kind == 1) = false := by rw [beq_eq_false_iff_ne]; exact q1
          have HR := hid (show false = flB f by rw [HO.out]; simp [q1])
          clear q1
          go_wp2
          go_meet
          case rel => exact ⟨congrArg Value.bool HR.out, rfl, rfl⟩
      case rest =>
      obtain ⟨rfl, rfl, hwx⟩ := hcut
      rw [hwx]
      clear hwx
      go_upto_region 6 with (fail)
      go_cut [7, 12] from 12 to 70 (fun v7 v12 wx => v7 = .bool (nuB f) ∧ v12 = .int .i64 k ∧ wx = W5)
      case first =>
        have HO := hid (show nuB f = (decide (f.kind = 2) && decide (0 ≤ f.lo) && decide (f.lo ≤ f.hi) && decide (f.hi ≤ 1000000)) from rfl)
        by_cases q2 : f.kind = 2
        · have t2 : (f.kind == 2) = true := by rw [q2]; rfl
          by_cases q3 : 0 ≤ f.lo
          · by_cases q4 : f.lo ≤ f.hi
            · by_cases q5 : f.hi ≤ 1000000
              · have HR := hid (show true = nuB f by rw [HO.out]; simp [q2, q3, q4, q5])
                clear q2
                go_wp2
                go_meet
                case rel => exact ⟨congrArg Value.bool HR.out, rfl, rfl⟩
              · have HR := hid (show false = nuB f by rw [HO.out]; simp [q5])
                clear q2
                go_wp2
                go_meet
                case rel => exact ⟨congrArg Value.bool HR.out, rfl, rfl⟩
            · have HR := hid (show false = nuB f by rw [HO.out]; simp [q4])
              clear q2
              go_wp2
              go_meet
              case rel => exact ⟨congrArg Value.bool HR.out, rfl, rfl⟩
          · have HR := hid (show false = nuB f by rw [HO.out]; simp [q3])
            clear q2
            go_wp2
            go_meet
            case rel => exact ⟨congrArg Value.bool HR.out, rfl, rfl⟩
        · have t2 : (f.kind == 2) = false := by rw [beq_eq_false_iff_ne]; exact q2
          have HR := hid (show false = nuB f by rw [HO.out]; simp [q2])
          clear q2
          go_wp2
          go_meet
          case rel => exact ⟨congrArg Value.bool HR.out, rfl, rfl⟩
      case rest =>
      obtain ⟨rfl, rfl, hwx⟩ := hcut
      rw [hwx]
      clear hwx
      have HOK := hid (show (flB f || nuB f) = Fa.okKind f from rfl)
      have HBW := hid (Below.step (HBL.out _ HW.out.tch) HB5.out)
      have hnl : (bs f.name).size ≤ maxLen := by have := HNL.out; rw [bs_size]; unfold maxLen; omega
      have HIN := hid (show ∀ w', Calls Tryz.prog 42 #[.string (bs f.name)] w' (Same (.bool (Fa.nm f.name)) w') from fun w' => isName_any (bs f.name) w' hnl)
      have HM5 := hid (HW.out.map.below HB5.out)
      have HLK := hid (show ∀ b : Bool, decide (f.name ∈ (d.take k).map Fa.Fact.name) = b → (Instr.lookup 68 (.map (some mb)) (.string (bs f.name)) false).run Tryz.prog W5 = .ok (.bool b) W5 from fun b hb => by
        have h1 := HM5.out.get str_keyed Tryz.underlying68 (zero_bool W5) (str_key hnl)
        rw [seen_get, hb] at h1
        exact h1)
      by_cases hok : Fa.okKind f = true
      · have hfn : flB f = true ∨ (flB f = false ∧ nuB f = true) := by
          rw [← HOK.out] at hok
          cases h6 : flB f
          · rw [h6] at hok; right; exact ⟨rfl, by simpa using hok⟩
          · left; rfl
        have HOKT := hid hok
        clear hok
        cases hnm : Fa.nm f.name with
        | false =>
          have HE := hid (valid_no HFM.out (by rw [hnm, Bool.and_false]))
          rw [hnm] at HIN
          clear hnm
          rcases hfn with h6 | ⟨h6, h7⟩
          all_goals
            go_wp2_with fail
            refine (HIN.out _).mono ?_
            rintro e w6 ⟨rfl, rfl⟩
            go_wp2_with fail
            go_ret
            exact ⟨ret_bool HE.out.symm, HBW.out⟩
        | true =>
          rw [hnm] at HIN
          have HNM1 := hid hnm
          clear hnm
          by_cases hm : f.name ∈ (d.take k).map Fa.Fact.name
          · have hlk := HLK.out true (decide_eq_true hm)
            have HE := hid (valid_twice HF.out hm)
            clear hm
            rcases hfn with h6 | ⟨h6, h7⟩
            all_goals
              go_wp2_with fail
              refine (HIN.out _).mono ?_
              rintro e w6 ⟨rfl, rfl⟩
              go_wp2_with fail
              go_ret
              exact ⟨ret_bool HE.out.symm, HBW.out⟩
          · have hlk := HLK.out false (decide_eq_false hm)
            obtain ⟨W7, hput, hM7, hg7⟩ := HM5.out.put str_keyed Tryz.underlying68 (by unfold maxLen; omega) (str_key hnl) (seen_step ((d.take k).map Fa.Fact.name) f.name).1 (seen_step ((d.take k).map Fa.Fact.name) f.name).2
            have HM7 := hid hM7
            have HG7 := hid hg7
            clear hM7 hg7
            have HVW7 := hid (show VW w W2 W7 mb (k + 1) d from ⟨by rw [take_snoc HF.out, List.map_append]; exact HM7.out, (HW.out.tch.step HB5.out).grown HG7.out (fun r e => by cases e; exact .inl rfl)⟩)
            have HVS := hid (vTo_step HF.out HV.out (by rw [HOKT.out, HNM1.out]; rfl) hm)
            clear hm
            rcases hfn with h6 | ⟨h6, h7⟩
            all_goals
              go_wp2_with fail
              refine (HIN.out _).mono ?_
              rintro e w6 ⟨rfl, rfl⟩
              go_wp2_with fail
              go_roundw
              case rel => exact ⟨k + 1, by omega, by go_num, HVS.out, HVW7.out⟩
              case measure => simp [intOf]; omega
      · have h6 : flB f = false := by
          cases h : flB f
          · rfl
          · rw [← HOK.out, h] at hok; exact absurd rfl hok
        have h7 : nuB f = false := by
          cases h : nuB f
          · rfl
          · rw [← HOK.out, h] at hok; exact absurd (Bool.or_true _) hok
        have HE := hid (valid_no HFM.out (by rw [Bool.eq_false_iff.2 hok]; rfl))
        clear hok
        go_wp2_with fail
        go_ret
        exact ⟨ret_bool HE.out.symm, HBW.out⟩
    · have hke : k = d.length := by omega
      subst hke
      have HE := hid (vTo_end HV.out)
      have HB := hid (HBL.out _ HW.out.tch)
      clear hd
      by_cases h60 : (d.length : Int) ≤ 60
      all_goals
        go_wp2_with fail
        go_ret
        exact ⟨ret_bool (by rw [HE.out]; first | (rw [decide_eq_true (by omega)]) | (rw [decide_eq_false (by omega)])), HB.out⟩

end Go.Proofs.YteogmlgmodeajaaGreatDoor
