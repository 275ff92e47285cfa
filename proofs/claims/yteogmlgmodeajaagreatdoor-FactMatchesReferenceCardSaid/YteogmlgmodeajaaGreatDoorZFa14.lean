/-
  The reference's Equal, Less, Few. Conditions: lengths.
-/
import Derived.Test.YteogmlgmodeajaaGreatDoorZFa4
namespace Go.Proofs.YteogmlgmodeajaaGreatDoor
open Go.RowKit Go.Maps

theorem take_same {α : Type} {a b : List α} {k : Nat} {x : α} (ha : a[k]? = some x) (hb : b[k]? = some x) (h : a.take k = b.take k) : a.take (k + 1) = b.take (k + 1) := by rw [take_snoc ha, take_snoc hb, h]
theorem ne_at {α : Type} {a b : List α} {k : Nat} {x y : α} (ha : a[k]? = some x) (hb : b[k]? = some y) (h : x ≠ y) : a ≠ b := by
  rintro rfl
  rw [ha] at hb
  exact h (Option.some.inj hb)
theorem less_at : ∀ {a b : List Int} {k : Nat} {x y : Int}, a[k]? = some x → b[k]? = some y → a.take k = b.take k → x ≠ y → Fa.less a b = decide (x < y)
  | p :: a, q :: b, 0, x, y, ha, hb, _, hn => by
    simp at ha hb
    subst ha; subst hb
    rw [Fa.less, if_neg hn]
  | p :: a, q :: b, k + 1, x, y, ha, hb, ht, hn => by
    simp only [List.take_succ_cons, List.cons.injEq] at ht
    rw [Fa.less, if_pos ht.1]
    exact less_at (by simpa using ha) (by simpa using hb) ht.2 hn
theorem less_end : ∀ {a b : List Int} {k : Nat}, a.take k = b.take k → (a.length ≤ k ∨ b.length ≤ k) → Fa.less a b = false
  | [], b, k, _, _ => by cases b <;> rfl
  | p :: a, [], k, _, _ => rfl
  | p :: a, q :: b, 0, _, h => by simp at h
  | p :: a, q :: b, k + 1, ht, h => by
    simp only [List.take_succ_cons, List.cons.injEq] at ht
    rw [Fa.less, if_pos ht.1]
    exact less_end ht.2 (by simpa using h)

set_option maxRecDepth 100000 in
set_option maxHeartbeats 4000000 in
theorem equal_any (a b : List Int) (va vb : Value) (w : World) (ha : SlOf w va 1 numC a) (hb : SlOf w vb 1 numC b) : Calls Tryz.prog 23 #[va, vb] w (Gives (.bool (decide (a = b))) w) := by
  have HA := hid ha
  have HB := hid hb
  obtain ⟨aa, ca, rfl, k1, k2, -⟩ := ha
  obtain ⟨ab, cb, rfl, k3, k4, -⟩ := hb
  have hl1 : a.length ≤ 9223372036854775807 := by unfold maxLen at k2; omega
  have hl2 : b.length ≤ 9223372036854775807 := by unfold maxLen at k4; omega
  go_enter Tryz.func23, Tryz.ntmps23
  by_cases hl : a.length = b.length
  · have hlb : ((a.length : Int) != (b.length : Int)) = false := by rw [hl]; simp
    have HL := hid hl
    clear hl
    go_wp2_with fail
    go_loopw [5] (fun iv wr => ∃ k : Nat, k ≤ a.length ∧ iv = .int .i64 k ∧ Hid (a.take k = b.take k) ∧ Hid (Below w.heap.size w wr)) (fun iv _ => a.length - (RowKit.intOf iv).toNat)
    case atStart => exact ⟨0, Nat.zero_le _, rfl, by simp [Hid], Below.refl _ _⟩
    case round =>
      obtain ⟨k, hk, rfl, HK, HR⟩ := hrel
      by_cases hlt : k < a.length
      · obtain ⟨x, hx⟩ : ∃ x, a[k]? = some x := ⟨_, List.getElem?_eq_getElem hlt⟩
        obtain ⟨y, hy⟩ : ∃ y, b[k]? = some y := ⟨_, List.getElem?_eq_getElem (by rw [← HL.out]; exact hlt)⟩
        obtain ⟨g1, o1, rfl, hg1, y1⟩ := num_cell HA.out hx HR.out
        obtain ⟨g2, o2, rfl, hg2, y2⟩ := num_cell HB.out hy HR.out
        have hk0 : (0 : Int) ≤ (k : Int) := by omega
        have hk1 : (k : Int) < (a.length : Int) := by omega
        have hk2 : (k : Int) < (b.length : Int) := by have := HL.out; omega
        have HX := hid hx
        have HY := hid hy
        clear hx hy
        by_cases he : x = y
        · have hne : (x != y) = false := by rw [he]; simp
          have HT := hid (take_same HX.out (by rw [he]; exact HY.out) HK.out)
          clear he
          go_wp2_with fail
          go_quiet (fail)
          go_wp2_with fail
          go_roundw
          case rel => exact ⟨k + 1, by omega, by go_num, HT, Below.step HR.out (Below.drewQ _ _)⟩
          case measure => simp [RowKit.intOf]; omega
        · have hne : (x != y) = true := by rw [bne_iff_ne]; exact he
          have HE := hid (ne_at HX.out HY.out he)
          clear he
          go_wp2_with fail
          go_quiet (fail)
          go_wp2_with fail
          go_ret
          exact ⟨ret_bool (decide_eq_false HE.out).symm, Below.step HR.out (Below.drewQ _ _)⟩
      · have hke : k = a.length := by omega
        have HE := hid (show a = b by
          have h := HK.out
          rwa [hke, List.take_length, HL.out, List.take_length] at h)
        clear hke
        go_wp2_with fail
        go_ret
        exact ⟨ret_bool (decide_eq_true HE.out).symm, HR.out⟩
  · have hlb : ((a.length : Int) != (b.length : Int)) = true := by rw [bne_iff_ne]; omega
    have HE := hid (show a ≠ b from fun e => hl (by rw [e]))
    clear hl
    go_wp2_with fail
    go_ret
    exact ⟨ret_bool (decide_eq_false HE.out).symm, Below.refl _ _⟩

/-- is a domain small? -/
def fewD (d : Fa.Dom) : Bool := decide (d.length ≤ 70) && d.all fun f => decide (f.name.length ≤ 100)
theorem fewD_parts {d : Fa.Dom} (h : fewD d = true) : d.length ≤ 70 ∧ ∀ f ∈ d, f.name.length ≤ 100 := by
  unfold fewD at h
  simp only [Bool.and_eq_true, decide_eq_true_eq, List.all_eq_true] at h
  exact h
theorem few_no {d : Fa.Dom} {k : Nat} {f : Fa.Fact} (hf : d[k]? = some f) (h : 100 < f.name.length) : fewD d = false := by
  rw [Bool.eq_false_iff]; intro e
  have := (fewD_parts e).2 f (List.mem_of_getElem? hf)
  omega
theorem few_long {d : Fa.Dom} (h : 70 < d.length) : fewD d = false := by
  rw [Bool.eq_false_iff]; intro e
  have := (fewD_parts e).1
  omega
theorem few_yes {d : Fa.Dom} (h : d.length ≤ 70) (h2 : ∀ f ∈ d.take d.length, f.name.length ≤ 100) : fewD d = true := by
  rw [List.take_length] at h2
  unfold fewD
  simp only [Bool.and_eq_true, decide_eq_true_eq, List.all_eq_true]
  exact ⟨h, h2⟩

set_option maxRecDepth 100000 in
set_option maxHeartbeats 4000000 in
theorem fewRef_any (d : Fa.Dom) (v : Value) (w : World) (h : SlOf w v 4 factC d) : Calls Tryz.prog 26 #[.agg #[v], .int .i64 70] w (Gives (.bool (fewD d)) w) := by
  have HS := hid h
  obtain ⟨va, cap, rfl, k1, k2, -⟩ := h
  obtain ⟨W1, hW1⟩ : ∃ W1, W1 = w.alloc (.cells #[.slice va d.length cap] 24) := ⟨_, rfl⟩
  have hb1 : Below w.heap.size w W1 := by rw [hW1]; exact (Below.refl _ w).alloc (Nat.le_refl _) _
  have hs1 : W1.heap[w.heap.size]? = some (.cells #[.slice va d.length cap] 24 (0, 0)) := by rw [hW1]; exact alloc_new w _
  have c1 : W1.cell? ⟨w.heap.size, 0, none⟩ = some (.slice va d.length cap) := by simp [World.cell?, hs1]
  have z1 : w.heap.size < W1.heap.size := (Array.getElem?_eq_some_iff.1 hs1).1
  have hl1 : d.length ≤ 9223372036854775807 := by unfold maxLen at k2; omega
  have HB := hid hb1
  clear hb1 hs1
  go_enter Tryz.func26, Tryz.ntmps26
  go_upto_region 1 with (fail)
  rw [← hW1]
  clear hW1
  go_wp2_with fail
  go_loop [5] (fun iv => ∃ k : Nat, k ≤ d.length ∧ iv = .int .i64 k ∧ Hid (∀ f ∈ d.take k, f.name.length ≤ 100)) (fun iv => d.length - (RowKit.intOf iv).toNat)
  case atStart => exact ⟨0, Nat.zero_le _, rfl, by simp [Hid]⟩
  case round =>
    obtain ⟨k, hk, rfl, HK⟩ := hrel
    by_cases hlt : k < d.length
    · by_cases hk70 : k < 70
      · obtain ⟨f, hf⟩ : ∃ f, d[k]? = some f := ⟨_, List.getElem?_eq_getElem hlt⟩
        obtain ⟨g, o, rfl, hg, e0, e1, e2, e3⟩ := fact_cells HS.out hf HB.out
        have hk0 : (0 : Int) ≤ (k : Int) := by omega
        have hk1 : (k : Int) < (d.length : Int) := by omega
        have hk7 : (k : Int) < 70 := by omega
        have HF := hid hf
        clear hf e1 e2 e3
        by_cases hn : (100 : Int) < ((bs f.name).size : Int)
        · have HE := hid (few_no HF.out (by rw [bs_size] at hn; omega))
          go_wp2_with fail
          go_ret
          exact ⟨ret_bool HE.out.symm, HB.out⟩
        · have HE := hid (show f.name.length ≤ 100 by rw [bs_size] at hn; omega)
          go_wp2_with fail
          go_round
          case rel =>
            refine ⟨k + 1, by omega, by go_num, ?_⟩
            intro x hx
            rw [take_snoc HF.out] at hx
            rcases List.mem_append.1 hx with hx | hx
            · exact HK.out x hx
            · simp at hx; subst hx; exact HE.out
          case measure => simp [RowKit.intOf]; omega
      · have HE := hid (few_long (d := d) (by
          by_cases h : 70 < d.length
          · exact h
          · omega))
        have hk7 : ¬ (k : Int) < 70 := by omega
        have hd7 : ¬ (d.length : Int) ≤ 70 := by
          intro h
          have h1 := HE.out
          omega
        go_wp2_with fail
        go_ret
        exact ⟨ret_bool HE.out.symm, HB.out⟩
    · have hke : k = d.length := by omega
      subst hke
      by_cases h70 : (d.length : Int) ≤ 70
      · have HE := hid (few_yes (by omega) HK.out)
        go_wp2_with fail
        go_ret
        exact ⟨ret_bool HE.out.symm, HB.out⟩
      · have HE := hid (few_long (d := d) (by omega))
        go_wp2_with fail
        go_ret
        exact ⟨ret_bool HE.out.symm, HB.out⟩

end Go.Proofs.YteogmlgmodeajaaGreatDoor
