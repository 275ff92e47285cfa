/-
  Slices of tokens in memory, and what the reference's Same, Alike return when the tokens are equal. Conditions: as each theorem says.
-/
import Derived.Test.YtlojckkccgpabaaDoorZLexRefD
namespace Go.Proofs.YtlojckkccgpabaaDoor
open Go.RowKit

/-- the four cells of a token -/
structure TokCell (w : World) (g o : Nat) (p : Nat × Lx.Tk) : Prop where
  c0 : w.cell? ⟨g, o, none⟩ = some (.int .i64 p.2.kind)
  c1 : w.cell? ⟨g, o + 1, none⟩ = some (.int .i64 p.1)
  c2 : w.cell? ⟨g, o + 2, none⟩ = some (.int .i64 p.2.n)
  c3 : w.cell? ⟨g, o + 3, none⟩ = some (.string (bs p.2.text))

/-- tokens in a row from an offset of a block on -/
def TokRow (w : World) (g o : Nat) (l : List (Nat × Lx.Tk)) : Prop := g < w.heap.size ∧ ∀ i p, l[i]? = some p → TokCell w g (o + i * 4) p

/-- a slice value that reads as these tokens -/
def TokSl (w : World) (v : Value) (l : List (Nat × Lx.Tk)) : Prop :=
  ∃ cap, l.length ≤ cap ∧ cap ≤ maxLen ∧ ((l = [] ∧ v = .slice none 0 cap) ∨ ∃ g o, v = .slice (some ⟨g, o, none⟩) l.length cap ∧ TokRow w g o l)

theorem TokCell.below {w w' : World} {g o : Nat} {p : Nat × Lx.Tk} (h : TokCell w g o p) (hb : Below w.heap.size w w') (hg : g < w.heap.size) : TokCell w' g o p :=
  ⟨(hb.cell (p := ⟨g, o, none⟩) hg).trans h.c0, (hb.cell (p := ⟨g, o + 1, none⟩) hg).trans h.c1, (hb.cell (p := ⟨g, o + 2, none⟩) hg).trans h.c2, (hb.cell (p := ⟨g, o + 3, none⟩) hg).trans h.c3⟩

theorem TokRow.below {w w' : World} {g o : Nat} {l : List (Nat × Lx.Tk)} (h : TokRow w g o l) (hb : Below w.heap.size w w') : TokRow w' g o l :=
  ⟨Nat.lt_of_lt_of_le h.1 hb.size, fun i p hp => (h.2 i p hp).below hb h.1⟩

theorem TokSl.below {w w' : World} {v : Value} {l : List (Nat × Lx.Tk)} (h : TokSl w v l) (hb : Below w.heap.size w w') : TokSl w' v l := by
  obtain ⟨cap, h1, h2, h3⟩ := h
  refine ⟨cap, h1, h2, ?_⟩
  rcases h3 with h3 | ⟨g, o, hv, hr⟩
  · exact .inl h3
  · exact .inr ⟨g, o, hv, hr.below hb⟩

theorem tokCells_get {l : List (Nat × Lx.Tk)} {i : Nat} {p : Nat × Lx.Tk} (h : l[i]? = some p) :
    (tokCells l)[i * 4]? = some (.int .i64 p.2.kind) ∧ (tokCells l)[i * 4 + 1]? = some (.int .i64 p.1) ∧ (tokCells l)[i * 4 + 2]? = some (.int .i64 p.2.n) ∧ (tokCells l)[i * 4 + 3]? = some (.string (bs p.2.text)) := by
  induction l generalizing i with
  | nil => simp at h
  | cons x l ih =>
    have e : tokCells (x :: l) = [.int .i64 x.2.kind, .int .i64 x.1, .int .i64 x.2.n, .string (bs x.2.text)] ++ tokCells l := rfl
    rw [e]
    cases i with
    | zero => simp at h; subst h; simp
    | succ i =>
      simp only [List.getElem?_cons_succ] at h
      have := ih h
      refine ⟨?_, ?_, ?_, ?_⟩
      · rw [List.getElem?_append_right (by simp; omega), show (i + 1) * 4 - _ = i * 4 by simp; omega]; exact this.1
      · rw [List.getElem?_append_right (by simp; omega), show (i + 1) * 4 + 1 - _ = i * 4 + 1 by simp; omega]; exact this.2.1
      · rw [List.getElem?_append_right (by simp; omega), show (i + 1) * 4 + 2 - _ = i * 4 + 2 by simp; omega]; exact this.2.2.1
      · rw [List.getElem?_append_right (by simp; omega), show (i + 1) * 4 + 3 - _ = i * 4 + 3 by simp; omega]; exact this.2.2.2

theorem TokSl.of_owns {w : World} {B : Nat} {v : Value} {l : List (Nat × Lx.Tk)} (h : w.ownsRow B 30 4 v l.length (tokCells l)) : TokSl w v l := by
  rcases h.2 with ⟨rfl, hz⟩ | ⟨g, cap, cur, rfl, hg, hh, hn, hc, hs, ht⟩
  · exact ⟨0, by omega, by unfold maxLen; omega, .inl ⟨List.length_eq_zero_iff.1 hz, rfl⟩⟩
  · refine ⟨cap, hn, hc, .inr ⟨g, 0, rfl, (Array.getElem?_eq_some_iff.1 hh).1, fun i p hp => ?_⟩⟩
    have hi : i < l.length := (List.getElem?_eq_some_iff.1 hp).1
    obtain ⟨t0, t1, t2, t3⟩ := tokCells_get hp
    rw [Nat.zero_add]
    exact ⟨(h.cellAt (i * 4) (by omega)).trans t0, (h.cellAt (i * 4 + 1) (by omega)).trans t1, (h.cellAt (i * 4 + 2) (by omega)).trans t2, (h.cellAt (i * 4 + 3) (by omega)).trans t3⟩

set_option maxRecDepth 100000 in
set_option maxHeartbeats 800000 in
theorem same_true (g o g2 o2 cap cap2 : Nat) (la lb : List (Nat × Lx.Tk)) (d : Nat) (w : World) (ha : Hid (TokRow w g o la)) (hb : Hid (TokRow w g2 o2 lb)) (he : Hid (lb = Lx.shift d la))
    (hsm : ∀ (i : Nat) (p : Nat × Lx.Tk), la[i]? = some p → (p.1 : Int) + d ≤ 1000000) (hm : la.length ≤ maxLen) :
    Calls Tryd.prog 14 #[.slice (some ⟨g, o, none⟩) la.length cap, .int .i64 d, .slice (some ⟨g2, o2, none⟩) la.length cap2] w (Gives (.bool true) w) := by
  unfold maxLen at hm
  have hsm' := hid hsm
  clear hsm
  go_enter Tryd.func14, Tryd.ntmps14
  go_wp2
  go_loopw [7] (fun i wr => ∃ k : Nat, k ≤ la.length ∧ i = .int .i64 k ∧ Below w.heap.size w wr) (fun i _ => la.length - (intOf i).toNat)
  case atStart => exact ⟨0, Nat.zero_le _, rfl, Below.refl _ _⟩
  case round =>
    obtain ⟨k, hk, rfl, hbr⟩ := hrel
    by_cases hlt : k < la.length
    · obtain ⟨p, hp⟩ : ∃ p, la[k]? = some p := ⟨_, List.getElem?_eq_getElem hlt⟩
      have hq : lb[k]? = some (d + p.1, p.2) := by rw [he.out, Lx.shift_get, hp]; rfl
      obtain ⟨a0, a1, a2, a3⟩ := (ha.out.below hbr).2 k p hp
      obtain ⟨b0, b1, b2, b3⟩ := (hb.out.below hbr).2 k _ hq
      have hg1 := (ha.out.below hbr).1
      have hg2 := (hb.out.below hbr).1
      rw [show (((d + p.1, p.2) : Nat × Lx.Tk).1 : Int) = (p.1 : Int) + d by simp; omega] at b1
      have hs := hsm'.out k p hp
      have hk0 : (0 : Int) ≤ (k : Int) := by omega
      have hk1 : (k : Int) < (la.length : Int) := by omega
      clear hp hq
      go_wp2
      go_quiet (fail)
      go_wp2
      go_roundw
      case rel => exact ⟨k + 1, by omega, by go_num, below_drewN (hbr.alloc hbr.size _) _⟩
      case measure => simp [intOf]; omega
    · go_wp2
      go_ret
      exact ⟨rfl, hbr⟩

theorem toks_get {la lb : List (Nat × Lx.Tk)} (he : Lx.toks lb = Lx.toks la) {k : Nat} {p : Nat × Lx.Tk} (hp : la[k]? = some p) : ∃ n, lb[k]? = some (n, p.2) := by
  have h := congrArg (fun l => l[k]?) he
  simp only [Lx.toks, List.getElem?_map, hp] at h
  cases hq : lb[k]? with
  | none => rw [hq] at h; simp at h
  | some q =>
    rw [hq] at h
    simp at h
    exact ⟨q.1, by rw [← h]⟩

set_option maxRecDepth 100000 in
set_option maxHeartbeats 1600000 in
theorem alike_true (g o g2 o2 cap cap2 : Nat) (la lb : List (Nat × Lx.Tk)) (w : World) (ha : Hid (TokRow w g o la)) (hb : Hid (TokRow w g2 o2 lb)) (he : Hid (Lx.toks lb = Lx.toks la))
    (hm : la.length ≤ maxLen) :
    Calls Tryd.prog 19 #[.slice (some ⟨g, o, none⟩) la.length cap, .slice (some ⟨g2, o2, none⟩) la.length cap2] w (Gives (.bool true) w) := by
  unfold maxLen at hm
  go_enter Tryd.func19, Tryd.ntmps19
  go_wp2
  go_loopw [5] (fun i wr => ∃ k : Nat, k ≤ la.length ∧ i = .int .i64 k ∧ Below w.heap.size w wr) (fun i _ => la.length - (intOf i).toNat)
  case atStart => exact ⟨0, Nat.zero_le _, rfl, Below.refl _ _⟩
  case round =>
    obtain ⟨k, hk, rfl, hbr⟩ := hrel
    by_cases hlt : k < la.length
    · obtain ⟨p, hp⟩ : ∃ p, la[k]? = some p := ⟨_, List.getElem?_eq_getElem hlt⟩
      obtain ⟨n, hq⟩ := toks_get he.out hp
      obtain ⟨a0, a1, a2, a3⟩ := (ha.out.below hbr).2 k p hp
      obtain ⟨b0, b1, b2, b3⟩ := (hb.out.below hbr).2 k _ hq
      have hk0 : (0 : Int) ≤ (k : Int) := by omega
      have hk1 : (k : Int) < (la.length : Int) := by omega
      clear hp hq a1 b1
      go_wp2
      go_quiet (fail)
      go_wp2
      go_roundw
      case rel => exact ⟨k + 1, by omega, by go_num, below_drewN hbr _⟩
      case measure => simp [intOf]; omega
    · go_wp2
      go_ret
      exact ⟨rfl, hbr⟩

set_option maxRecDepth 100000 in
theorem same_empty (a a2 : Option Addr) (cap cap2 : Nat) (d : Int) (w : World) :
    Calls Tryd.prog 14 #[.slice a 0 cap, .int .i64 d, .slice a2 0 cap2] w (Gives (.bool true) w) := by
  go_enter Tryd.func14, Tryd.ntmps14
  go_wp2
  refine wp_loop_once ?_
  go_wp2
  go_ret
  exact ⟨rfl, Below.refl _ _⟩

set_option maxRecDepth 100000 in
theorem alike_empty (a a2 : Option Addr) (cap cap2 : Nat) (w : World) :
    Calls Tryd.prog 19 #[.slice a 0 cap, .slice a2 0 cap2] w (Gives (.bool true) w) := by
  go_enter Tryd.func19, Tryd.ntmps19
  go_wp2
  refine wp_loop_once ?_
  go_wp2
  go_ret
  exact ⟨rfl, Below.refl _ _⟩

theorem same_sl (va vb : Value) (la lb : List (Nat × Lx.Tk)) (d : Nat) (w : World) (ha : TokSl w va la) (hb : TokSl w vb lb) (he : lb = Lx.shift d la)
    (hsm : ∀ (i : Nat) (p : Nat × Lx.Tk), la[i]? = some p → (p.1 : Int) + d ≤ 1000000) : Calls Tryd.prog 14 #[va, .int .i64 d, vb] w (Gives (.bool true) w) := by
  have hlen : lb.length = la.length := by rw [he, Lx.shift_length]
  obtain ⟨cap, h1, h2, h3⟩ := ha
  obtain ⟨cap2, k1, k2, k3⟩ := hb
  rcases h3 with ⟨h3, rfl⟩ | ⟨g, o, rfl, hr⟩
  · subst h3
    rcases k3 with ⟨_, rfl⟩ | ⟨g2, o2, rfl, _⟩
    · exact same_empty _ _ _ _ _ _
    · rw [hlen]; exact same_empty _ _ _ _ _ _
  · rcases k3 with ⟨k3, rfl⟩ | ⟨g2, o2, rfl, hr2⟩
    · subst k3
      have h0 : la.length = 0 := by simpa using hlen.symm
      rw [h0]
      exact same_empty _ _ _ _ _ _
    · rw [hlen]
      exact same_true g o g2 o2 cap cap2 la lb d w hr hr2 he hsm (by unfold maxLen at *; omega)

theorem alike_sl (va vb : Value) (la lb : List (Nat × Lx.Tk)) (w : World) (ha : TokSl w va la) (hb : TokSl w vb lb) (he : Lx.toks lb = Lx.toks la) :
    Calls Tryd.prog 19 #[va, vb] w (Gives (.bool true) w) := by
  have hlen : lb.length = la.length := by simpa [Lx.toks] using congrArg List.length he
  obtain ⟨cap, h1, h2, h3⟩ := ha
  obtain ⟨cap2, k1, k2, k3⟩ := hb
  rcases h3 with ⟨h3, rfl⟩ | ⟨g, o, rfl, hr⟩
  · subst h3
    rcases k3 with ⟨_, rfl⟩ | ⟨g2, o2, rfl, _⟩
    · exact alike_empty _ _ _ _ _
    · rw [hlen]; exact alike_empty _ _ _ _ _
  · rcases k3 with ⟨k3, rfl⟩ | ⟨g2, o2, rfl, hr2⟩
    · subst k3
      have h0 : la.length = 0 := by simpa using hlen.symm
      rw [h0]
      exact alike_empty _ _ _ _ _
    · rw [hlen]
      exact alike_true g o g2 o2 cap cap2 la lb w hr hr2 he (by unfold maxLen at *; omega)

end Go.Proofs.YtlojckkccgpabaaDoor
