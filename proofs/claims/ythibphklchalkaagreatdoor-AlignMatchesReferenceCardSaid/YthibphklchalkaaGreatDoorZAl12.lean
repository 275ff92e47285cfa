/-
  The reference's Few: tables and words of a moderate size. Conditions: none beyond what can be read.
-/
import Derived.Test.YthibphklchalkaaGreatDoorZAl11
namespace Al

def fewB (t : Rw.Table) (ws : List (List UInt8)) : Bool :=
  decide (t.rules.length ≤ 80) && decide (t.drops.length ≤ 40) && decide (t.ends.length ≤ 40) && t.rules.all (fun r => decide (r.from_.length ≤ 12) && decide (r.to_.length ≤ 12)) &&
    t.drops.all (fun d => decide (d.word.length ≤ 60)) && t.ends.all (fun d => decide (d.word.length ≤ 60)) && ws.all (fun x => decide (x.length ≤ 30))

end Al
namespace Go.Proofs.YthibphklchalkaaGreatDoor
open Go.RowKit Go.Lib Go.Maps

/-- a table's value, its slices in memory, of whatever size -/
structure TableRaw (w : World) (t : Rw.Table) (v : Value) : Prop where
  at_ : ∃ vr vd ve, v = .agg #[vr, vd, ve, .int .i64 t.drop, .int .i64 t.order, .int .i64 t.initial] ∧ SlOf w vr 4 ruleCells t.rules ∧ SlOf w vd 3 dropCells t.drops ∧ SlOf w ve 3 dropCells t.ends
  rules : ∀ r ∈ t.rules, (Lit.int .i64 r.script).wf = true ∧ r.from_.length ≤ maxLen ∧ r.to_.length ≤ maxLen
  drops : ∀ d ∈ t.drops, (Lit.int .i64 d.script).wf = true ∧ d.word.length ≤ maxLen
  ends : ∀ d ∈ t.ends, (Lit.int .i64 d.script).wf = true ∧ d.word.length ≤ maxLen

theorem TableRaw.below {w w' : World} {t : Rw.Table} {v : Value} (h : TableRaw w t v) (hb : Below w.heap.size w w') : TableRaw w' t v := by
  obtain ⟨⟨vr, vd, ve, e, h1, h2, h3⟩, h4, h5, h6⟩ := h
  exact ⟨⟨vr, vd, ve, e, h1.below hb, h2.below hb, h3.below hb⟩, h4, h5, h6⟩

theorem TableRaw.few {w : World} {t : Rw.Table} {v : Value} {ws : List (List UInt8)} (h : TableRaw w t v) (hf : Al.fewB t ws = true) : TableAt w t v := by
  unfold Al.fewB at hf
  simp only [Bool.and_eq_true, decide_eq_true_eq, List.all_eq_true] at hf
  obtain ⟨⟨⟨⟨⟨⟨f1, f2⟩, f3⟩, f4⟩, f5⟩, f6⟩, f7⟩ := hf
  exact ⟨h.at_, fun r hr => ⟨(h.rules r hr).1, by have := f4 r hr; omega, by have := f4 r hr; omega⟩, fun d hd => ⟨(h.drops d hd).1, by have := f5 d hd; omega⟩, fun d hd => ⟨(h.ends d hd).1, by have := f6 d hd; omega⟩, by omega, by omega, by omega⟩

theorem all_step {α : Type} {p : α → Bool} {l : List α} {n : Nat} {x : α} (h : (l.take n).all p = true) (hx : l[n]? = some x) : (l.take (n + 1)).all p = p x := by
  obtain ⟨hn, he⟩ := List.getElem?_eq_some_iff.1 hx
  rw [List.take_succ_eq_append_getElem hn, he, List.all_append, h]
  simp

theorem all_stop {α : Type} {p : α → Bool} {l : List α} {n : Nat} (h : (l.take (n + 1)).all p = false) : l.all p = false := by
  rw [← List.take_append_drop (n + 1) l, List.all_append, h]; rfl

set_option maxRecDepth 100000 in
set_option maxHeartbeats 8000000 in
theorem few_any (t : Rw.Table) (tv wv : Value) (ws : List (List UInt8)) (W : World) (ht : TableRaw W t tv) (hw : SlOf W wv 1 strC ws) (hwl : ∀ x ∈ ws, x.length ≤ maxLen) : Calls Tryz.prog 16 #[tv, wv] W (Gives (.bool (Al.fewB t ws)) W) := by
  have HT := hid ht
  have HW := hid hw
  have HWL := hid hwl
  obtain ⟨⟨vr, vd, ve, rfl, ⟨ar, cr, rfl, r1, r2, r3⟩, ⟨ad, cd, rfl, d1, d2, d3⟩, ⟨ae, ce, rfl, e1, e2, e3⟩⟩, -, -, -⟩ := ht
  obtain ⟨aw, cw, rfl, w1, w2, w3⟩ := hw
  unfold maxLen at r2 d2 e2 w2
  have R3 := hid r3
  have D3 := hid d3
  have E3 := hid e3
  have W3 := hid w3
  clear r3 d3 e3 w3 hwl
  obtain ⟨W1, hW1⟩ : ∃ W1, W1 = W.alloc (.cells #[.slice ar t.rules.length cr, .slice ad t.drops.length cd, .slice ae t.ends.length ce, .int .i64 t.drop, .int .i64 t.order, .int .i64 t.initial] 25) := ⟨_, rfl⟩
  have hb1 : Below W.heap.size W W1 := by rw [hW1]; exact (Below.refl _ W).alloc (Nat.le_refl _) _
  have ht1 : W1.heap[W.heap.size]? = some (.cells #[.slice ar t.rules.length cr, .slice ad t.drops.length cd, .slice ae t.ends.length ce, .int .i64 t.drop, .int .i64 t.order, .int .i64 t.initial] 25 (0, 0)) := by rw [hW1]; exact World.alloc_heap_new W _
  have x0 : W1.cell? ⟨W.heap.size, 0, none⟩ = some (.slice ar t.rules.length cr) := by simp [World.cell?, ht1]
  have x1 : W1.cell? ⟨W.heap.size, 1, none⟩ = some (.slice ad t.drops.length cd) := by simp [World.cell?, ht1]
  have x2 : W1.cell? ⟨W.heap.size, 2, none⟩ = some (.slice ae t.ends.length ce) := by simp [World.cell?, ht1]
  have HB := hid hb1
  have fin : Hid (∀ r : Bool, r = Al.fewB t ws → Gives (.bool (Al.fewB t ws)) W (.returned (.bool r)) W1) := fun r hr => ⟨ret_bool hr, HB.out⟩
  clear hb1 ht1
  have FB := hid (show ∀ p1 p2 p3 p4 p5 p6 p7 : Bool, p1 = decide (t.rules.length ≤ 80) → p2 = decide (t.drops.length ≤ 40) → p3 = decide (t.ends.length ≤ 40) → p4 = t.rules.all (fun r => decide (r.from_.length ≤ 12) && decide (r.to_.length ≤ 12)) →
      p5 = t.drops.all (fun d => decide (d.word.length ≤ 60)) → p6 = t.ends.all (fun d => decide (d.word.length ≤ 60)) → p7 = ws.all (fun x => decide (x.length ≤ 30)) → Al.fewB t ws = (p1 && p2 && p3 && p4 && p5 && p6 && p7) from
    fun _ _ _ _ _ _ _ h1 h2 h3 h4 h5 h6 h7 => by rw [h1, h2, h3, h4, h5, h6, h7]; rfl)
  by_cases hr : t.rules.length ≤ 80
  case neg =>
    have hr' : (80 : Int) < (t.rules.length : Int) := by omega
    have hk := hid (show false = Al.fewB t ws by rw [FB.out _ _ _ _ _ _ _ rfl rfl rfl rfl rfl rfl rfl, decide_eq_false hr]; simp)
    clear hr
    go_enter Tryz.func16, Tryz.ntmps16
    go_wp2_with fail
    go_ret
    rw [← hW1]
    exact fin.out _ hk.out
  by_cases hd : t.drops.length ≤ 40
  case neg =>
    have hr' : ¬ (80 : Int) < (t.rules.length : Int) := by omega
    have hd' : (40 : Int) < (t.drops.length : Int) := by omega
    have hk := hid (show false = Al.fewB t ws by rw [FB.out _ _ _ _ _ _ _ rfl rfl rfl rfl rfl rfl rfl, decide_eq_false hd]; simp)
    clear hr hd
    go_enter Tryz.func16, Tryz.ntmps16
    go_wp2_with fail
    go_ret
    rw [← hW1]
    exact fin.out _ hk.out
  by_cases he : t.ends.length ≤ 40
  case neg =>
    have hr' : ¬ (80 : Int) < (t.rules.length : Int) := by omega
    have hd' : ¬ (40 : Int) < (t.drops.length : Int) := by omega
    have he' : (40 : Int) < (t.ends.length : Int) := by omega
    have hk := hid (show false = Al.fewB t ws by rw [FB.out _ _ _ _ _ _ _ rfl rfl rfl rfl rfl rfl rfl, decide_eq_false he]; simp)
    clear hr hd he
    go_enter Tryz.func16, Tryz.ntmps16
    go_wp2_with fail
    go_ret
    rw [← hW1]
    exact fin.out _ hk.out
  have hr' : ¬ (80 : Int) < (t.rules.length : Int) := by omega
  have hd' : ¬ (40 : Int) < (t.drops.length : Int) := by omega
  have he' : ¬ (40 : Int) < (t.ends.length : Int) := by omega
  go_enter Tryz.func16, Tryz.ntmps16
  go_wp2_with fail
  rw [← hW1]
  clear hW1
  go_loop [5] (fun i => ∃ n : Nat, n ≤ t.rules.length ∧ i = .int .i64 n ∧ (t.rules.take n).all (fun r => decide (r.from_.length ≤ 12) && decide (r.to_.length ≤ 12)) = true) (fun i => t.rules.length - (intOf i).toNat)
  case atStart => exact ⟨0, Nat.zero_le _, rfl, by simp⟩
  case round =>
    obtain ⟨n, hn, rfl, ha⟩ := hrel
    by_cases hlt : n < t.rules.length
    · obtain ⟨g, o, rfl, hrow⟩ := R3.out (by omega)
      obtain ⟨r, hx⟩ : ∃ r, t.rules[n]? = some r := ⟨_, List.getElem?_eq_getElem hlt⟩
      have c1 := (hrow.below HB.out).2 n r hx 1 _ rfl
      have c2 := (hrow.below HB.out).2 n r hx 2 _ rfl
      have hm := (HT.out.rules r (List.mem_of_getElem? hx)).2
      have z1 : (bs r.from_).size ≤ 9223372036854775807 := by rw [bs_len]; have := hm.1; unfold maxLen at this; exact this
      have z2 : (bs r.to_).size ≤ 9223372036854775807 := by rw [bs_len]; have := hm.2; unfold maxLen at this; exact this
      have hn0 : (0 : Int) ≤ (n : Int) := by omega
      have hn1 : (n : Int) < (t.rules.length : Int) := by omega
      have hst := hid (all_step ha hx)
      have HA := hid ha
      clear hrow hx hm ha
      by_cases h1 : r.from_.length ≤ 12
      · have h1' : ¬ (12 : Int) < ((bs r.from_).size : Int) := by rw [bs_len]; omega
        by_cases h2 : r.to_.length ≤ 12
        · have h2' : ¬ (12 : Int) < ((bs r.to_).size : Int) := by rw [bs_len]; omega
          have hgo := hid (hst.out.trans (by rw [decide_eq_true h1, decide_eq_true h2, Bool.true_and]))
          clear h1 h2
          go_wp2_with fail
          go_round
          case rel => exact ⟨n + 1, by omega, by go_num, hgo.out⟩
          case measure => simp [intOf]; omega
        · have h2' : (12 : Int) < ((bs r.to_).size : Int) := by rw [bs_len]; omega
          have hgo := hid (all_stop (hst.out.trans (by rw [decide_eq_true h1, decide_eq_false h2]; rfl)))
          have hk := hid (show false = Al.fewB t ws by rw [FB.out _ _ _ _ _ _ _ rfl rfl rfl hgo.out.symm rfl rfl rfl]; simp)
          clear h1 h2
          go_wp2_with fail
          go_ret
          exact fin.out _ hk.out
      · have h1' : (12 : Int) < ((bs r.from_).size : Int) := by rw [bs_len]; omega
        have hgo := hid (all_stop (hst.out.trans (by rw [decide_eq_false h1, Bool.false_and])))
        have hk := hid (show false = Al.fewB t ws by rw [FB.out _ _ _ _ _ _ _ rfl rfl rfl hgo.out.symm rfl rfl rfl]; simp)
        clear h1
        go_wp2_with fail
        go_ret
        exact fin.out _ hk.out
    · have hne : n = t.rules.length := by omega
      subst hne
      rw [List.take_length] at ha
      have A4 := hid ha
      clear ha
      go_wp2_with fail
      go_loop [6] (fun i => ∃ n : Nat, n ≤ t.drops.length ∧ i = .int .i64 n ∧ (t.drops.take n).all (fun d => decide (d.word.length ≤ 60)) = true) (fun i => t.drops.length - (intOf i).toNat)
      case atStart => exact ⟨0, Nat.zero_le _, rfl, by simp⟩
      case round =>
        obtain ⟨n, hn, rfl, ha⟩ := hrel
        by_cases hlt : n < t.drops.length
        · obtain ⟨g, o, rfl, hrow⟩ := D3.out (by omega)
          obtain ⟨d, hx⟩ : ∃ d, t.drops[n]? = some d := ⟨_, List.getElem?_eq_getElem hlt⟩
          have c1 := (hrow.below HB.out).2 n d hx 1 _ rfl
          have z1 : (bs d.word).size ≤ 9223372036854775807 := by rw [bs_len]; have := (HT.out.drops d (List.mem_of_getElem? hx)).2; unfold maxLen at this; exact this
          have hn0 : (0 : Int) ≤ (n : Int) := by omega
          have hn1 : (n : Int) < (t.drops.length : Int) := by omega
          have hst := hid (all_step ha hx)
          have HA := hid ha
          clear hrow hx ha
          by_cases h1 : d.word.length ≤ 60
          · have h1' : ¬ (60 : Int) < ((bs d.word).size : Int) := by rw [bs_len]; omega
            have hgo := hid (hst.out.trans (by rw [decide_eq_true h1]))
            clear h1
            go_wp2_with fail
            go_round
            case rel => exact ⟨n + 1, by omega, by go_num, hgo.out⟩
            case measure => simp [intOf]; omega
          · have h1' : (60 : Int) < ((bs d.word).size : Int) := by rw [bs_len]; omega
            have hgo := hid (all_stop (hst.out.trans (by rw [decide_eq_false h1])))
            have hk := hid (show false = Al.fewB t ws by rw [FB.out _ _ _ _ _ _ _ rfl rfl rfl rfl hgo.out.symm rfl rfl]; simp)
            clear h1
            go_wp2_with fail
            go_ret
            exact fin.out _ hk.out
        · have hne : n = t.drops.length := by omega
          subst hne
          rw [List.take_length] at ha
          have A5 := hid ha
          clear ha
          go_wp2_with fail
          go_loop [7] (fun i => ∃ n : Nat, n ≤ t.ends.length ∧ i = .int .i64 n ∧ (t.ends.take n).all (fun d => decide (d.word.length ≤ 60)) = true) (fun i => t.ends.length - (intOf i).toNat)
          case atStart => exact ⟨0, Nat.zero_le _, rfl, by simp⟩
          case round =>
            obtain ⟨n, hn, rfl, ha⟩ := hrel
            by_cases hlt : n < t.ends.length
            · obtain ⟨g, o, rfl, hrow⟩ := E3.out (by omega)
              obtain ⟨d, hx⟩ : ∃ d, t.ends[n]? = some d := ⟨_, List.getElem?_eq_getElem hlt⟩
              have c1 := (hrow.below HB.out).2 n d hx 1 _ rfl
              have z1 : (bs d.word).size ≤ 9223372036854775807 := by rw [bs_len]; have := (HT.out.ends d (List.mem_of_getElem? hx)).2; unfold maxLen at this; exact this
              have hn0 : (0 : Int) ≤ (n : Int) := by omega
              have hn1 : (n : Int) < (t.ends.length : Int) := by omega
              have hst := hid (all_step ha hx)
              have HA := hid ha
              clear hrow hx ha
              by_cases h1 : d.word.length ≤ 60
              · have h1' : ¬ (60 : Int) < ((bs d.word).size : Int) := by rw [bs_len]; omega
                have hgo := hid (hst.out.trans (by rw [decide_eq_true h1]))
                clear h1
                go_wp2_with fail
                go_round
                case rel => exact ⟨n + 1, by omega, by go_num, hgo.out⟩
                case measure => simp [intOf]; omega
              · have h1' : (60 : Int) < ((bs d.word).size : Int) := by rw [bs_len]; omega
                have hgo := hid (all_stop (hst.out.trans (by rw [decide_eq_false h1])))
                have hk := hid (show false = Al.fewB t ws by rw [FB.out _ _ _ _ _ _ _ rfl rfl rfl rfl rfl hgo.out.symm rfl]; simp)
                clear h1
                go_wp2_with fail
                go_ret
                exact fin.out _ hk.out
            · have hne : n = t.ends.length := by omega
              subst hne
              rw [List.take_length] at ha
              have A6 := hid ha
              clear ha
              go_wp2_with fail
              go_loop [8] (fun i => ∃ n : Nat, n ≤ ws.length ∧ i = .int .i64 n ∧ (ws.take n).all (fun d => decide (d.length ≤ 30)) = true) (fun i => ws.length - (intOf i).toNat)
              case atStart => exact ⟨0, Nat.zero_le _, rfl, by simp⟩
              case round =>
                obtain ⟨n, hn, rfl, ha⟩ := hrel
                by_cases hlt : n < ws.length
                · obtain ⟨g, o, rfl, hrow⟩ := W3.out (by omega)
                  obtain ⟨d, hx⟩ : ∃ d, ws[n]? = some d := ⟨_, List.getElem?_eq_getElem hlt⟩
                  have c1 := (hrow.below HB.out).2 n d hx 0 _ rfl
                  rw [Nat.add_zero, Nat.mul_one] at c1
                  have z1 : (bs d).size ≤ 9223372036854775807 := by rw [bs_len]; have := HWL.out d (List.mem_of_getElem? hx); unfold maxLen at this; exact this
                  have hn0 : (0 : Int) ≤ (n : Int) := by omega
                  have hn1 : (n : Int) < (ws.length : Int) := by omega
                  have hst := hid (all_step ha hx)
                  have HA := hid ha
                  clear hrow hx ha
                  by_cases h1 : d.length ≤ 30
                  · have h1' : ¬ (30 : Int) < ((bs d).size : Int) := by rw [bs_len]; omega
                    have hgo := hid (hst.out.trans (by rw [decide_eq_true h1]))
                    clear h1
                    go_wp2_with fail
                    go_round
                    case rel => exact ⟨n + 1, by omega, by go_num, hgo.out⟩
                    case measure => simp [intOf]; omega
                  · have h1' : (30 : Int) < ((bs d).size : Int) := by rw [bs_len]; omega
                    have hgo := hid (all_stop (hst.out.trans (by rw [decide_eq_false h1])))
                    have hk := hid (show false = Al.fewB t ws by rw [FB.out _ _ _ _ _ _ _ rfl rfl rfl rfl rfl rfl hgo.out.symm]; simp)
                    clear h1
                    go_wp2_with fail
                    go_ret
                    exact fin.out _ hk.out
                · have hne : n = ws.length := by omega
                  subst hne
                  rw [List.take_length] at ha
                  have A7 := hid ha
                  clear ha
                  go_wp2_with fail
                  go_ret
                  refine fin.out _ ?_
                  unfold Al.fewB
                  rw [A4.out, A5.out, A6.out, A7.out, decide_eq_true hr, decide_eq_true hd, decide_eq_true he]
                  rfl

end Go.Proofs.YthibphklchalkaaGreatDoor
