/-
  align.open. Conditions: lengths; the library's tables.
-/
import Derived.Test.YthibphklchalkaaGreatDoorZAl6
namespace Al

def openB (t : Rw.Table) (a : Int) (x : List UInt8) (b : Int) (y : List UInt8) : Bool := (side t.rules a x).isSome && (side t.rules b y).isSome && Rw.valid t

end Al
namespace Go.Proofs.YthibphklchalkaaGreatDoor
open Go.RowKit Go.Lib Go.Maps

theorem SidePost.uni {t : Rw.Table} {k : Int} {word : List UInt8} {W W' : World} {e : Ending} (h : SidePost t k word W e W') :
    Below W.heap.size W W' ∧ ∃ a1 n1 c1 a2 n2 c2, e = .returned (.tuple #[.agg #[.slice a1 n1 c1, .slice a2 n2 c2], .bool (Al.side t.rules k word).isSome]) ∧
      ∀ S, Al.side t.rules k word = some S → SlOf W' (.slice a1 n1 c1) 1 strC S.letters ∧ ∃ fs, RulesAt W' fs (.slice a2 n2 c2) ∧ fs.map Prod.fst = S.rules := by
  obtain ⟨hb, h⟩ := h
  refine ⟨hb, ?_⟩
  cases hs : Al.side t.rules k word with
  | none =>
    rw [hs] at h
    exact ⟨none, 0, 0, none, 0, 0, h, fun S e => by cases e⟩
  | some S =>
    rw [hs] at h
    obtain ⟨lv, rv, fs, rfl, h1, h2, h3⟩ := h
    have h1' := h1
    have h2' := h2
    obtain ⟨a, c, rfl, -⟩ := h1'
    obtain ⟨⟨a2, c2, rfl, -⟩, -⟩ := h2'
    exact ⟨_, _, _, _, _, _, rfl, fun S' e => by cases e; exact ⟨h1, fs, h2, h3⟩⟩

/-- what open ends in -/
def OpenPost (t : Rw.Table) (a : Int) (x : List UInt8) (b : Int) (y : List UInt8) (W : World) (e : Ending) (W' : World) : Prop :=
  Below W.heap.size W W' ∧ ∃ a1 n1 c1 a2 n2 c2 a3 n3 c3 a4 n4 c4, e = .returned (.tuple #[.agg #[.slice a1 n1 c1, .slice a2 n2 c2, .slice a3 n3 c3, .slice a4 n4 c4], .bool (Al.openB t a x b y)]) ∧
    ∀ S1 S2, Al.side t.rules a x = some S1 → Al.side t.rules b y = some S2 → ∃ fl fr, WordsAt W' ⟨S1, S2⟩ fl fr [.slice a1 n1 c1, .slice a2 n2 c2, .slice a3 n3 c3, .slice a4 n4 c4]

theorem rulesFrom_from (k : Int) : ∀ (l : List Rw.Rule) (i : Nat), ∀ r ∈ Al.rulesFrom k i l, r.from_ ≠ []
  | [], _, r, h => by simp [Al.rulesFrom] at h
  | x :: l, i, r, h => by
    unfold Al.rulesFrom at h
    split at h
    · split at h
      · rename_i f hf
        rcases List.mem_cons.1 h with rfl | h
        · exact (Sc.lets_len hf).1
        · exact rulesFrom_from k l _ r h
      · exact rulesFrom_from k l _ r h
    · exact rulesFrom_from k l _ r h

theorem side_rules {t : List Rw.Rule} {k : Int} {x : List UInt8} {S : Al.Side} (h : Al.side t k x = some S) : S.rules = Al.rulesFrom k 0 t ∧ Sc.lets k (Sc.fold x) = some S.letters := by
  unfold Al.side at h
  split at h
  · cases h
  · split at h
    · cases h
    · rename_i l hl; cases h; exact ⟨rfl, hl⟩

section
variable {α : Type} {w : World} {v : Value} {sz : Nat} {cells : α → List Value} {l : List α}
/-- a cell is set that holds none of these values -/
theorem SlOf.set_other (h : SlOf w v sz cells l) {q j : Nat} {x : Value} (u : Value) (hx : w.cell? ⟨q, j, none⟩ = some x) (hne : ∀ y ∈ l, x ∉ cells y) : SlOf (w.setCell ⟨q, j, none⟩ u) v sz cells l := by
  obtain ⟨a, cap, h1, h2, h3, h4⟩ := h
  refine ⟨a, cap, h1, h2, h3, fun hl => ?_⟩
  obtain ⟨g, o, ha, hg, hr⟩ := h4 hl
  refine ⟨g, o, ha, by simpa [World.setCell] using hg, fun i y hy k z hz => ?_⟩
  have hc := hr i y hy k z hz
  rw [World.cell?_setCell_other]
  · exact hc
  · intro e
    rw [← e, hx] at hc
    cases hc
    exact hne y (List.mem_of_getElem? hy) (List.mem_of_getElem? hz)
end

theorem WordsAt.set_nil {W : World} {w : Al.Ws} {fl fr : List (Al.R × Value)} {v : List Value} (h : WordsAt W w fl fr v) {q j : Nat} (u : Value) (hx : W.cell? ⟨q, j, none⟩ = some (.slice none 0 0))
    (hl : ∀ r ∈ w.left.rules, r.from_ ≠ []) (hr : ∀ r ∈ w.right.rules, r.from_ ≠ []) : WordsAt (W.setCell ⟨q, j, none⟩ u) w fl fr v := by
  obtain ⟨⟨ll, lr, rl, rr, e, a, b, c, d⟩, h1, h2⟩ := h
  have str : ∀ y : List UInt8, Value.slice none 0 0 ∉ strC y := fun y h => by simp [strC] at h
  have key : ∀ (fs : List (Al.R × Value)), (∀ p ∈ fs, SlOf W p.2 1 strC p.1.from_) → (∀ p ∈ fs, p.1.from_ ≠ []) → ∀ p ∈ fs, Value.slice none 0 0 ∉ ruleC p := fun fs hs hn p hp hm => by
    obtain ⟨a, cap, hv, _⟩ := hs p hp
    unfold ruleC at hm
    rw [hv] at hm
    simp at hm
    exact hn p hp (List.length_eq_zero_iff.1 hm.2.1.symm)
  have n1 : ∀ p ∈ fl, p.1.from_ ≠ [] := fun p hp => hl _ (by rw [← h1]; exact List.mem_map_of_mem hp)
  have n2 : ∀ p ∈ fr, p.1.from_ ≠ [] := fun p hp => hr _ (by rw [← h2]; exact List.mem_map_of_mem hp)
  exact ⟨⟨ll, lr, rl, rr, e, a.set_other u hx (fun y _ => str y), ⟨b.1.set_other u hx (key fl b.2 n1), fun p hp => (b.2 p hp).set_other u hx (fun y _ => str y)⟩,
    c.set_other u hx (fun y _ => str y), ⟨d.1.set_other u hx (key fr d.2 n2), fun p hp => (d.2 p hp).set_other u hx (fun y _ => str y)⟩⟩, h1, h2⟩

theorem open_end {t : Rw.Table} {a b : Int} {x y : List UInt8} {W W5 wz wf : World} {a1 a2 a3 a4 : Option Addr} {n1 c1 n2 c2 n3 c3 n4 c4 : Nat} (hbW5 : Below W.heap.size W W5)
    (hr5 : W5.heap[W.heap.size + 1]? = some (.cells #[.slice none 0 0, .slice none 0 0, .slice none 0 0, .slice none 0 0] 47 (0, 0)))
    (hWA : ∀ S1 S2, Al.side t.rules a x = some S1 → Al.side t.rules b y = some S2 → ∃ fl fr, WordsAt W5 ⟨S1, S2⟩ fl fr [.slice a1 n1 c1, .slice a2 n2 c2, .slice a3 n3 c3, .slice a4 n4 c4])
    (hz : Below W5.heap.size W5 wz) {ok : Bool} (hok : ok = Al.openB t a x b y)
    (hf : wf = (((wz.setCell ⟨W.heap.size + 1, 0, none⟩ (.slice a1 n1 c1)).setCell ⟨W.heap.size + 1, 1, none⟩ (.slice a2 n2 c2)).setCell ⟨W.heap.size + 1, 2, none⟩ (.slice a3 n3 c3)).setCell ⟨W.heap.size + 1, 3, none⟩ (.slice a4 n4 c4)) :
    OpenPost t a x b y W (.returned (.tuple #[.agg #[.slice a1 n1 c1, .slice a2 n2 c2, .slice a3 n3 c3, .slice a4 n4 c4], .bool ok])) wf := by
  subst hok hf
  have hr := (hz.block _ (Array.getElem?_eq_some_iff.1 hr5).1).trans hr5
  refine ⟨((((hbW5.trans (hz.mono hbW5.size)).setCell (p := ⟨W.heap.size + 1, 0, none⟩) (by simp) _).setCell (p := ⟨W.heap.size + 1, 1, none⟩) (by simp) _).setCell (p := ⟨W.heap.size + 1, 2, none⟩) (by simp) _).setCell (p := ⟨W.heap.size + 1, 3, none⟩) (by simp) _,
    _, _, _, _, _, _, _, _, _, _, _, _, rfl, fun S1 S2 h1 h2 => ?_⟩
  obtain ⟨fl, fr, hw⟩ := hWA S1 S2 h1 h2
  have l1 : ∀ r ∈ (⟨S1, S2⟩ : Al.Ws).left.rules, r.from_ ≠ [] := by rw [(side_rules h1).1]; exact rulesFrom_from a _ _
  have l2 : ∀ r ∈ (⟨S1, S2⟩ : Al.Ws).right.rules, r.from_ ≠ [] := by rw [(side_rules h2).1]; exact rulesFrom_from b _ _
  have hw := hw.below hz
  refine ⟨fl, fr, (((hw.set_nil _ ?_ l1 l2).set_nil _ ?_ l1 l2).set_nil _ ?_ l1 l2).set_nil _ ?_ l1 l2⟩
  · simp [World.cell?, hr]
  · simp [World.cell?, World.setCell, Array.getElem?_modify, hr]
  · simp [World.cell?, World.setCell, Array.getElem?_modify, hr]
  · simp [World.cell?, World.setCell, Array.getElem?_modify, hr]

set_option maxRecDepth 100000 in
set_option maxHeartbeats 4000000 in
theorem open_any (t : Rw.Table) (tv : Value) (a b : Int) (x y : ByteArray) (W : World) (ht : TableAt W t tv) (hT : Tabs W) (hx : x.size ≤ 1000000) (hy : y.size ≤ 1000000) :
    Calls Tryz.prog 17 #[tv, .int .i64 a, .string x, .int .i64 b, .string y] W (OpenPost t a x.data.toList b y.data.toList W) := by
  have HT := hid ht
  have HTT := hid hT
  obtain ⟨⟨vr, vd, ve, rfl, ⟨ar, cr, rfl, -⟩, ⟨ad, cd, rfl, -⟩, ⟨ae, ce, rfl, -⟩⟩, -, -, -, -, -, -⟩ := ht
  clear hT
  obtain ⟨W1, hW1⟩ : ∃ W1, W1 = (W.alloc (.cells #[.slice ar t.rules.length cr, .slice ad t.drops.length cd, .slice ae t.ends.length ce, .int .i64 t.drop, .int .i64 t.order, .int .i64 t.initial] 25)).alloc (.cells #[.slice none 0 0, .slice none 0 0, .slice none 0 0, .slice none 0 0] 47) := ⟨_, rfl⟩
  have hb1 : Below W.heap.size W W1 := by rw [hW1]; exact ((Below.refl _ W).alloc (Nat.le_refl _) _).alloc (by simp) _
  have hr1 : W1.heap[W.heap.size + 1]? = some (.cells #[.slice none 0 0, .slice none 0 0, .slice none 0 0, .slice none 0 0] 47 (0, 0)) := by
    rw [hW1]
    have := World.alloc_heap_new (W.alloc (.cells #[.slice ar t.rules.length cr, .slice ad t.drops.length cd, .slice ae t.ends.length ce, .int .i64 t.drop, .int .i64 t.order, .int .i64 t.initial] 25)) (.cells #[.slice none 0 0, .slice none 0 0, .slice none 0 0, .slice none 0 0] 47)
    rwa [World.size_alloc] at this
  have ht1 : W1.heap[W.heap.size]? = some (.cells #[.slice ar t.rules.length cr, .slice ad t.drops.length cd, .slice ae t.ends.length ce, .int .i64 t.drop, .int .i64 t.order, .int .i64 t.initial] 25 (0, 0)) := by
    rw [hW1]; exact (Below.heap_alloc _ _ _ (by simp)).trans (World.alloc_heap_new W _)
  have HS1 := hid (sideOf_any t _ a x W1 (HT.out.below hb1) (HTT.out.below hb1) hx)
  have H1 := hid (And.intro hb1 (And.intro hr1 ht1))
  clear hb1 hr1 ht1
  go_enter Tryz.func17, Tryz.ntmps17
  go_wp2_with fail
  rw [← hW1]
  clear hW1
  refine (HS1.out).mono ?_
  rintro e W2 h2
  obtain ⟨hb2, a1, n1, c1, a2, n2, c2, rfl, hS1⟩ := h2.uni
  obtain ⟨hb1, hr1, ht1⟩ := H1.out
  obtain ⟨W3, hW3⟩ : ∃ W3, W3 = W2.alloc (.cells #[.slice a1 n1 c1, .slice a2 n2 c2] 45) := ⟨_, rfl⟩
  have hb3 : Below W2.heap.size W2 W3 := by rw [hW3]; exact (Below.refl _ W2).alloc (Nat.le_refl _) _
  have hs3 : W3.heap[W2.heap.size]? = some (.cells #[.slice a1 n1 c1, .slice a2 n2 c2] 45 (0, 0)) := by rw [hW3]; exact World.alloc_heap_new W2 _
  have b13 := Below.step hb2 hb3
  have hr3 := (b13.block _ (Array.getElem?_eq_some_iff.1 hr1).1).trans hr1
  have ht3 := (b13.block _ (Array.getElem?_eq_some_iff.1 ht1).1).trans ht1
  have hbW3 := hb1.trans (b13.mono hb1.size)
  have ht2 := (hb2.block _ (Array.getElem?_eq_some_iff.1 ht1).1).trans ht1
  have t0 : W2.cell? ⟨W.heap.size, 0, none⟩ = some (.slice ar t.rules.length cr) := by simp [World.cell?, ht2]
  have t1 : W2.cell? ⟨W.heap.size, 1, none⟩ = some (.slice ad t.drops.length cd) := by simp [World.cell?, ht2]
  have t2 : W2.cell? ⟨W.heap.size, 2, none⟩ = some (.slice ae t.ends.length ce) := by simp [World.cell?, ht2]
  have t3 : W2.cell? ⟨W.heap.size, 3, none⟩ = some (.int .i64 t.drop) := by simp [World.cell?, ht2]
  have t4 : W2.cell? ⟨W.heap.size, 4, none⟩ = some (.int .i64 t.order) := by simp [World.cell?, ht2]
  have t5 : W2.cell? ⟨W.heap.size, 5, none⟩ = some (.int .i64 t.initial) := by simp [World.cell?, ht2]
  have z2 := (Array.getElem?_eq_some_iff.1 ht2).1
  have zn2 : W.heap.size + 1 < W2.heap.size := Nat.lt_of_lt_of_le (Array.getElem?_eq_some_iff.1 hr1).1 hb2.size
  have HS2 := hid (sideOf_any t _ b y W3 (HT.out.below hbW3) (HTT.out.below hbW3) hy)
  have R3 := hid (And.intro hbW3 (And.intro hs3 (And.intro hr3 ht3)))
  have RS1 := hid (And.intro hS1 hb3)
  clear hb2 hb1 hr1 ht1 hb3 hs3 b13 hr3 ht3 hbW3 ht2 hS1 h2
  go_wp2_with fail
  rw [← hW3]
  clear hW3
  refine (HS2.out).mono ?_
  rintro e W4 h4
  obtain ⟨hb4, a3, n3, c3, a4, n4, c4, rfl, hS2⟩ := h4.uni
  obtain ⟨hbW3, hs3, hr3, ht3⟩ := R3.out
  obtain ⟨W5, hW5⟩ : ∃ W5, W5 = W4.alloc (.cells #[.slice a3 n3 c3, .slice a4 n4 c4] 45) := ⟨_, rfl⟩
  have hb5 : Below W4.heap.size W4 W5 := by rw [hW5]; exact (Below.refl _ W4).alloc (Nat.le_refl _) _
  have hs5 : W5.heap[W4.heap.size]? = some (.cells #[.slice a3 n3 c3, .slice a4 n4 c4] 45 (0, 0)) := by rw [hW5]; exact World.alloc_heap_new W4 _
  have b35 := Below.step hb4 hb5
  have hr5 := (b35.block _ (Array.getElem?_eq_some_iff.1 hr3).1).trans hr3
  have ht5 := (b35.block _ (Array.getElem?_eq_some_iff.1 ht3).1).trans ht3
  have hs5' := (b35.block _ (Array.getElem?_eq_some_iff.1 hs3).1).trans hs3
  have hbW5 := hbW3.trans (b35.mono hbW3.size)
  have hWA := hid (show ∀ S1 S2, Al.side t.rules a x.data.toList = some S1 → Al.side t.rules b y.data.toList = some S2 → ∃ fl fr, WordsAt W5 ⟨S1, S2⟩ fl fr [.slice a1 n1 c1, .slice a2 n2 c2, .slice a3 n3 c3, .slice a4 n4 c4] by
    intro S1 S2 h1 h2
    obtain ⟨u1, fl, u2, u3⟩ := RS1.out.1 S1 h1
    obtain ⟨v1, fr, v2, v3⟩ := hS2 S2 h2
    have b25 := Below.step RS1.out.2 b35
    exact ⟨fl, fr, ⟨⟨_, _, _, _, rfl, u1.below b25, u2.below b25, v1.below hb5, v2.below hb5⟩, u3, v3⟩⟩)
  have t0 : W5.cell? ⟨W.heap.size, 0, none⟩ = some (.slice ar t.rules.length cr) := by simp [World.cell?, ht5]
  have t1 : W5.cell? ⟨W.heap.size, 1, none⟩ = some (.slice ad t.drops.length cd) := by simp [World.cell?, ht5]
  have t2 : W5.cell? ⟨W.heap.size, 2, none⟩ = some (.slice ae t.ends.length ce) := by simp [World.cell?, ht5]
  have t3 : W5.cell? ⟨W.heap.size, 3, none⟩ = some (.int .i64 t.drop) := by simp [World.cell?, ht5]
  have t4 : W5.cell? ⟨W.heap.size, 4, none⟩ = some (.int .i64 t.order) := by simp [World.cell?, ht5]
  have t5 : W5.cell? ⟨W.heap.size, 5, none⟩ = some (.int .i64 t.initial) := by simp [World.cell?, ht5]
  have z5 := (Array.getElem?_eq_some_iff.1 ht5).1
  have y0 : W5.cell? ⟨W2.heap.size, 0, none⟩ = some (.slice a1 n1 c1) := by simp [World.cell?, hs5']
  have y1 : W5.cell? ⟨W2.heap.size, 1, none⟩ = some (.slice a2 n2 c2) := by simp [World.cell?, hs5']
  have zy := (Array.getElem?_eq_some_iff.1 hs5').1
  have x0 : W5.cell? ⟨W4.heap.size, 0, none⟩ = some (.slice a3 n3 c3) := by simp [World.cell?, hs5]
  have x1 : W5.cell? ⟨W4.heap.size, 1, none⟩ = some (.slice a4 n4 c4) := by simp [World.cell?, hs5]
  have zx := (Array.getElem?_eq_some_iff.1 hs5).1
  have r0 : W5.cell? ⟨W.heap.size + 1, 0, none⟩ = some (.slice none 0 0) := by simp [World.cell?, hr5]
  have r1 : W5.cell? ⟨W.heap.size + 1, 1, none⟩ = some (.slice none 0 0) := by simp [World.cell?, hr5]
  have r2 : W5.cell? ⟨W.heap.size + 1, 2, none⟩ = some (.slice none 0 0) := by simp [World.cell?, hr5]
  have r3 : W5.cell? ⟨W.heap.size + 1, 3, none⟩ = some (.slice none 0 0) := by simp [World.cell?, hr5]
  have q0 : W5.frozen? ⟨W.heap.size + 1, 0, none⟩ = false := by simp [World.frozen?, hr5]
  have q1 : W5.frozen? ⟨W.heap.size + 1, 1, none⟩ = false := by simp [World.frozen?, hr5]
  have q2 : W5.frozen? ⟨W.heap.size + 1, 2, none⟩ = false := by simp [World.frozen?, hr5]
  have q3 : W5.frozen? ⟨W.heap.size + 1, 3, none⟩ = false := by simp [World.frozen?, hr5]
  have zr := (Array.getElem?_eq_some_iff.1 hr5).1
  have HV := hid (valid_any t _ W5 (HT.out.below hbW5) (HTT.out.below hbW5))
  have ZN4 := hid (show W2.heap.size < W4.heap.size by have := hb4.size; have := (Array.getElem?_eq_some_iff.1 hs3).1; omega)
  have R5 := hid (And.intro hbW5 (And.intro hs5 (And.intro hs5' (And.intro hr5 ht5))))
  clear hb4 hbW3 hs3 hr3 ht3 hb5 hs5 b35 hr5 ht5 hs5' hbW5 hS2 h4
  cases e1 : (Al.side t.rules a x.data.toList).isSome with
  | false =>
    have hno := hid (show Al.openB t a x.data.toList b y.data.toList = false by unfold Al.openB; rw [e1]; rfl)
    clear e1
    go_wp2_with fail
    rw [← hW5]
    clear hW5
    go_region
    all_goals
      go_wp2_with fail
      refine post_cell_tmp (v := .agg #[.slice a1 n1 c1, .slice a2 n2 c2, .slice a3 n3 c3, .slice a4 n4 c4]) rfl rfl ?_ rfl rfl ?_
      · go_simp
      · exact open_end R5.out.1 R5.out.2.2.2.1 hWA.out (Below.refl _ _).drew hno.out.symm rfl
  | true =>
    cases e2 : (Al.side t.rules b y.data.toList).isSome with
    | false =>
      have hno := hid (show Al.openB t a x.data.toList b y.data.toList = false by unfold Al.openB; rw [e1, e2]; rfl)
      clear e1 e2
      go_wp2_with fail
      rw [← hW5]
      clear hW5
      go_region
      all_goals
        go_wp2_with fail
        refine post_cell_tmp (v := .agg #[.slice a1 n1 c1, .slice a2 n2 c2, .slice a3 n3 c3, .slice a4 n4 c4]) rfl rfl ?_ rfl rfl ?_
        · go_simp
        · exact open_end R5.out.1 R5.out.2.2.2.1 hWA.out (Below.refl _ _).drew hno.out.symm rfl
    | true => 
      have hno := hid (show Al.openB t a x.data.toList b y.data.toList = Rw.valid t by unfold Al.openB; rw [e1, e2]; rfl)
      clear e1 e2
      have K : Hid (∀ wx, Below W5.heap.size W5 wx → wx.cell? ⟨W2.heap.size, 0, none⟩ = some (.slice a1 n1 c1) ∧ wx.cell? ⟨W2.heap.size, 1, none⟩ = some (.slice a2 n2 c2) ∧ wx.cell? ⟨W4.heap.size, 0, none⟩ = some (.slice a3 n3 c3) ∧ wx.cell? ⟨W4.heap.size, 1, none⟩ = some (.slice a4 n4 c4) ∧
        wx.cell? ⟨W.heap.size, 0, none⟩ = some (.slice ar t.rules.length cr) ∧ wx.cell? ⟨W.heap.size, 1, none⟩ = some (.slice ad t.drops.length cd) ∧ wx.cell? ⟨W.heap.size, 2, none⟩ = some (.slice ae t.ends.length ce) ∧
        wx.cell? ⟨W.heap.size, 3, none⟩ = some (.int .i64 t.drop) ∧ wx.cell? ⟨W.heap.size, 4, none⟩ = some (.int .i64 t.order) ∧ wx.cell? ⟨W.heap.size, 5, none⟩ = some (.int .i64 t.initial)) := fun wx hb =>
        ⟨(hb.cell (p := ⟨W2.heap.size, 0, none⟩) zy).trans y0, (hb.cell (p := ⟨W2.heap.size, 1, none⟩) zy).trans y1, (hb.cell (p := ⟨W4.heap.size, 0, none⟩) zx).trans x0, (hb.cell (p := ⟨W4.heap.size, 1, none⟩) zx).trans x1,
          (hb.cell (p := ⟨W.heap.size, 0, none⟩) z5).trans t0, (hb.cell (p := ⟨W.heap.size, 1, none⟩) z5).trans t1, (hb.cell (p := ⟨W.heap.size, 2, none⟩) z5).trans t2, (hb.cell (p := ⟨W.heap.size, 3, none⟩) z5).trans t3, (hb.cell (p := ⟨W.heap.size, 4, none⟩) z5).trans t4, (hb.cell (p := ⟨W.heap.size, 5, none⟩) z5).trans t5⟩
      have KR : Hid (∀ wx, Below W5.heap.size W5 wx → wx.cell? ⟨W.heap.size + 1, 0, none⟩ = some (.slice none 0 0) ∧ wx.cell? ⟨W.heap.size + 1, 1, none⟩ = some (.slice none 0 0) ∧ wx.cell? ⟨W.heap.size + 1, 2, none⟩ = some (.slice none 0 0) ∧ wx.cell? ⟨W.heap.size + 1, 3, none⟩ = some (.slice none 0 0) ∧
        wx.frozen? ⟨W.heap.size + 1, 0, none⟩ = false ∧ wx.frozen? ⟨W.heap.size + 1, 1, none⟩ = false ∧ wx.frozen? ⟨W.heap.size + 1, 2, none⟩ = false ∧ wx.frozen? ⟨W.heap.size + 1, 3, none⟩ = false) := fun wx hb =>
        ⟨(hb.cell (p := ⟨W.heap.size + 1, 0, none⟩) zr).trans r0, (hb.cell (p := ⟨W.heap.size + 1, 1, none⟩) zr).trans r1, (hb.cell (p := ⟨W.heap.size + 1, 2, none⟩) zr).trans r2, (hb.cell (p := ⟨W.heap.size + 1, 3, none⟩) zr).trans r3,
          (hb.frozen (p := ⟨W.heap.size + 1, 0, none⟩) zr).trans q0, (hb.frozen (p := ⟨W.heap.size + 1, 1, none⟩) zr).trans q1, (hb.frozen (p := ⟨W.heap.size + 1, 2, none⟩) zr).trans q2, (hb.frozen (p := ⟨W.heap.size + 1, 3, none⟩) zr).trans q3⟩
      have VQ : Hid (∀ wx, Below W5.heap.size W5 wx → Calls Tryz.prog 29 #[.agg #[.slice ar t.rules.length cr, .slice ad t.drops.length cd, .slice ae t.ends.length ce, .int .i64 t.drop, .int .i64 t.order, .int .i64 t.initial]] wx (Gives (.bool (Rw.valid t)) wx)) := fun wx hb =>
        have b := R5.out.1.trans (hb.mono R5.out.1.size)
        valid_any t _ wx (HT.out.below b) (HTT.out.below b)
      go_wp2_with fail
      rw [← hW5]
      clear hW5
      have zn4 : W2.heap.size < W4.heap.size := ZN4.out
      have m1 : ¬ W2.heap.size = W.heap.size + 1 := by omega
      have m2 : ¬ W4.heap.size = W.heap.size + 1 := by omega
      have m3 : ¬ W.heap.size + 1 = W2.heap.size := by omega
      have m4 : ¬ W.heap.size + 1 = W4.heap.size := by omega
      go_region_held3 (fun wx => wx.cell? ⟨W2.heap.size, 0, none⟩ = some (.slice a1 n1 c1) ∧ wx.cell? ⟨W2.heap.size, 1, none⟩ = some (.slice a2 n2 c2) ∧ wx.cell? ⟨W4.heap.size, 0, none⟩ = some (.slice a3 n3 c3) ∧ wx.cell? ⟨W4.heap.size, 1, none⟩ = some (.slice a4 n4 c4) ∧
        wx.cell? ⟨W.heap.size, 0, none⟩ = some (.slice ar t.rules.length cr) ∧ wx.cell? ⟨W.heap.size, 1, none⟩ = some (.slice ad t.drops.length cd) ∧ wx.cell? ⟨W.heap.size, 2, none⟩ = some (.slice ae t.ends.length ce) ∧
        wx.cell? ⟨W.heap.size, 3, none⟩ = some (.int .i64 t.drop) ∧ wx.cell? ⟨W.heap.size, 4, none⟩ = some (.int .i64 t.order) ∧ wx.cell? ⟨W.heap.size, 5, none⟩ = some (.int .i64 t.initial))
        (first | (exact K.out _ (Below.refl _ _).drew) | (exact K.out _ (by assumption)) | (go_split_ands; go_simp))
        (first | (go_at_call 29; refine (VQ.out _ (Below.refl _ _).drew).mono ?_; rintro e wy ⟨rfl, hbx⟩; have hby := Below.step (Below.refl _ _).drew hbx; have hkr := KR.out _ hby; obtain ⟨w0, w1, w2, w3, w4, w5, w6, w7⟩ := hkr))
      have HB := hid hby
      clear hbx hby
      go_wp2_with fail
      refine post_cell_tmp (v := .agg #[.slice a1 n1 c1, .slice a2 n2 c2, .slice a3 n3 c3, .slice a4 n4 c4]) rfl rfl ?_ rfl rfl ?_
      · go_simp
      · exact open_end R5.out.1 R5.out.2.2.2.1 hWA.out HB.out hno.out.symm rfl

end Go.Proofs.YthibphklchalkaaGreatDoor
