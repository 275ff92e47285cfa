/-
  slices.Clone at postings and at bookings. Conditions: lengths.
-/
import Derived.Test.YtfkcphflcmpenaaDoorZLedMem
import Derived.Lib.LazyBuf
namespace Go.Proofs.YtfkcphflcmpenaaDoor
open Go.RowKit Go.Maps

theorem Tryd.infoPost : (Tryd.prog.info? 47).map (fun i => (i.zero, i.size, i.bytes)) = some (some (.agg #[.string ⟨#[]⟩, .int .i64 0]), 2, 24) := by kernel_rfl
theorem Tryd.infoBk : (Tryd.prog.info? 36).map (fun i => (i.zero, i.size, i.bytes)) = some (some (.agg #[.string ⟨#[]⟩, .int .i64 0, .slice none 0 0]), 3, 48) := by kernel_rfl

theorem flat_len {α : Type} {cells : α → List Value} {sz : Nat} (l : List α) (h : ∀ x, (cells x).length = sz) : (l.flatMap cells).length = l.length * sz := by
  induction l with
  | nil => simp
  | cons x l ih => rw [List.flatMap_cons, List.length_append, ih, h, List.length_cons, Nat.succ_mul]; omega

theorem flat_cells {α : Type} {w : World} {g o sz : Nat} {cells : α → List Value} : ∀ {l : List α}, (∀ x, (cells x).length = sz) → RowOf w g o sz cells l → ∀ (j : Nat) (u : Value), (l.flatMap cells)[j]? = some u → w.cell? ((⟨g, o, none⟩ : Addr).add j) = some u := by
  intro l hc hr j u hu
  have hadd : (⟨g, o, none⟩ : Addr).add j = ⟨g, o + j, none⟩ := by
    unfold Addr.add; split
    · rename_i h; subst h; rfl
    · rfl
  rw [hadd]
  have key : ∀ (l : List α) (k : Nat), (∀ (i : Nat) (x : α), l[i]? = some x → ∀ (j : Nat) (v : Value), (cells x)[j]? = some v → w.cell? ⟨g, o + (k + i) * sz + j, none⟩ = some v) → ∀ j, (l.flatMap cells)[j]? = some u → w.cell? ⟨g, o + k * sz + j, none⟩ = some u := by
    intro l
    induction l with
    | nil => intro k _ j hu; simp at hu
    | cons x l ih =>
      intro k h j hu
      rw [List.flatMap_cons] at hu
      by_cases hj : j < sz
      · rw [List.getElem?_append_left (by rw [hc]; exact hj)] at hu
        have := h 0 x rfl j u hu
        rw [Nat.add_zero] at this
        exact this
      · rw [List.getElem?_append_right (by rw [hc]; omega), hc] at hu
        have := ih (k + 1) (fun i y hy j v hv => by
          have := h (i + 1) y (by simpa using hy) j v hv
          rw [show k + 1 + i = k + (i + 1) by omega]; exact this) (j - sz) hu
        rw [Nat.succ_mul] at this
        rw [show o + k * sz + j = o + (k * sz + sz) + (j - sz) by omega]
        exact this
  have := key l 0 (fun i x hx j v hv => by rw [Nat.zero_add]; exact hr.2 i x hx j v hv) j hu
  rw [Nat.zero_mul, Nat.add_zero] at this
  exact this

theorem post_one (l : List (ByteArray × Int)) : ∀ u ∈ l.flatMap postC, u.oneCell' = true := by
  intro u hu
  obtain ⟨p, _, hp⟩ := List.mem_flatMap.1 hu
  simp [postC] at hp
  rcases hp with rfl | rfl <;> rfl

theorem book_one (l : List (Lg.Bk × Value)) (h : ∀ p ∈ l, p.2.oneCell' = true) : ∀ u ∈ l.flatMap bookC, u.oneCell' = true := by
  intro u hu
  obtain ⟨p, hp, hx⟩ := List.mem_flatMap.1 hu
  simp [bookC] at hx
  rcases hx with rfl | rfl | rfl
  · rfl
  · rfl
  · exact h p hp

/-- what Clone ends in -/
def CloneP (l : List (ByteArray × Int)) (w : World) (e : Ending) (w' : World) : Prop :=
  ∃ v, e = .returned v ∧ w'.ownsRow w.heap.size 47 2 v l.length (l.flatMap postC) ∧ Below w.heap.size w w'
def CloneB (l : List (Lg.Bk × Value)) (w : World) (e : Ending) (w' : World) : Prop :=
  ∃ v, e = .returned v ∧ w'.ownsRow w.heap.size 36 3 v l.length (l.flatMap bookC) ∧ Below w.heap.size w w'

set_option maxRecDepth 100000 in
set_option maxHeartbeats 1000000 in
theorem clone_posts (l : List (ByteArray × Int)) (v : Value) (w : World) (h : SlOf w v 2 postC l) (h0 : 0 < l.length) (hl : l.length ≤ 1000000) : Calls Tryd.prog 32 #[v] w (CloneP l w) := by
  obtain ⟨i0, hi, hz0, hz1, hz2⟩ := info_parts Tryd.infoPost
  obtain ⟨a, cap, rfl, h1, h2, h3⟩ := h
  obtain ⟨g, o, rfl, hr⟩ := h3 h0
  have HC := hid (flat_cells (cells := postC) (sz := 2) (fun x => rfl) (hr.below ((Below.refl _ w).alloc (Nat.le_refl _) (.cells #[] 47))))
  have hown : (w.alloc (.cells #[] 47)).ownsRow w.heap.size 47 2 (.slice (some ⟨w.heap.size, 0, none⟩) 0 0) 0 [] := World.ownsRow_made w #[] 0 (Nat.le_refl _) (by unfold maxLen; omega) rfl
  have hb : Below w.heap.size w (w.alloc (.cells #[] 47)) := (Below.refl _ w).alloc (Nat.le_refl _) _
  have HL := hid (flat_len (cells := postC) (sz := 2) l (fun x => rfl))
  have hnl := _root_.Go.run_eql_slice_nil (P := Tryd.prog) w 34 47 (some ⟨g, o, none⟩) l.length cap Tryd.underlying34
  rw [show (some (⟨g, o, none⟩ : Addr)).isNone = false from rfl] at hnl
  clear h3 hr
  go_enter Tryd.func32, Tryd.ntmps32
  go_wp2_with (at_builtin; refine wpList_append_own _ rfl _ _ 34 rfl w.heap.size 47 i0 (.agg #[.string ⟨#[]⟩, .int .i64 0]) 2 24 Tryd.underlying34 hi hz0 hz1 hz2 rfl (by decide) _ _ _ rfl hown ⟨g, o, none⟩ l.length cap (l.flatMap postC) rfl HL.out HC.out (post_one l) (by unfold maxLen; omega) (by omega) (by simp) ?_; intro v' w' ho hg _)
  go_ret
  rw [Nat.zero_add, List.nil_append] at ho
  exact ⟨v', rfl, ho, Below.appended hb hg (by simp) hown⟩

set_option maxRecDepth 100000 in
set_option maxHeartbeats 1000000 in
theorem clone_books (l : List (Lg.Bk × Value)) (v : Value) (w : World) (h : SlOf w v 3 bookC l) (h0 : 0 < l.length) (hl : l.length ≤ 1000000) (hv : ∀ p ∈ l, p.2.oneCell' = true) : Calls Tryd.prog 36 #[v] w (CloneB l w) := by
  obtain ⟨i0, hi, hz0, hz1, hz2⟩ := info_parts Tryd.infoBk
  obtain ⟨a, cap, rfl, h1, h2, h3⟩ := h
  obtain ⟨g, o, rfl, hr⟩ := h3 h0
  have HC := hid (flat_cells (cells := bookC) (sz := 3) (fun x => rfl) (hr.below ((Below.refl _ w).alloc (Nat.le_refl _) (.cells #[] 36))))
  have hown : (w.alloc (.cells #[] 36)).ownsRow w.heap.size 36 3 (.slice (some ⟨w.heap.size, 0, none⟩) 0 0) 0 [] := World.ownsRow_made w #[] 0 (Nat.le_refl _) (by unfold maxLen; omega) rfl
  have hb : Below w.heap.size w (w.alloc (.cells #[] 36)) := (Below.refl _ w).alloc (Nat.le_refl _) _
  have HL := hid (flat_len (cells := bookC) (sz := 3) l (fun x => rfl))
  have HO := hid (book_one l hv)
  have hnl := _root_.Go.run_eql_slice_nil (P := Tryd.prog) w 24 36 (some ⟨g, o, none⟩) l.length cap Tryd.underlying24
  rw [show (some (⟨g, o, none⟩ : Addr)).isNone = false from rfl] at hnl
  clear h3 hr hv
  go_enter Tryd.func36, Tryd.ntmps36
  go_wp2_with (at_builtin; refine wpList_append_own _ rfl _ _ 24 rfl w.heap.size 36 i0 (.agg #[.string ⟨#[]⟩, .int .i64 0, .slice none 0 0]) 3 48 Tryd.underlying24 hi hz0 hz1 hz2 rfl (by decide) _ _ _ rfl hown ⟨g, o, none⟩ l.length cap (l.flatMap bookC) rfl HL.out HC.out HO.out (by unfold maxLen; omega) (by omega) (by simp) ?_; intro v' w' ho hg _)
  go_ret
  rw [Nat.zero_add, List.nil_append] at ho
  exact ⟨v', rfl, ho, Below.appended hb hg (by simp) hown⟩

set_option maxRecDepth 100000 in
theorem clone_nil (w : World) : Calls Tryd.prog 36 #[.slice none 0 0] w (CloneB [] w) := by
  have hnl := _root_.Go.run_eql_slice_nil (P := Tryd.prog) w 24 36 none 0 0 Tryd.underlying24
  rw [show (none : Option Addr).isNone = true from rfl] at hnl
  go_enter Tryd.func36, Tryd.ntmps36
  go_wp2
  go_ret
  exact ⟨_, rfl, World.ownsRow_nil _ _ _ _, Below.refl _ _⟩

end Go.Proofs.YtfkcphflcmpenaaDoor
