/-
  The law file's head: the chapter's examples: it returns true; few. Conditions: the table of powers lies where it was laid.
-/
import Derived.Test.YteogmlgmodeajaaGreatDoorZFa11
import Derived.Test.YteogmlgmodeajaaGreatDoorZFa13
import Derived.Test.YteogmlgmodeajaaGreatDoorZFa14
namespace Go.Proofs.YteogmlgmodeajaaGreatDoor
open Go.RowKit Go.Maps

def s1 : List UInt8 := [97, 103, 101, 32, 110, 117, 109, 98, 101, 114, 32, 48, 32, 116, 111, 32, 49, 53, 48, 59, 32, 109, 101, 109, 98, 101, 114, 32, 102, 108, 97, 103, 59]
def s2 : List UInt8 := [109, 101, 109, 98, 101, 114, 32, 61, 32, 49, 44, 32, 97, 103, 101, 32, 61, 32, 51, 48]
def s3 : List UInt8 := [97, 103, 101, 32, 61, 32, 49, 53, 49, 44, 32, 109, 101, 109, 98, 101, 114, 32, 61, 32, 49]
def s4 : List UInt8 := [97, 103, 101, 32, 61, 32, 51, 48]
def s5 : List UInt8 := [97, 103, 101, 32, 110, 117, 109, 98, 101, 114, 32, 53, 32, 116, 111, 32, 52, 59]
def x1 : List UInt8 := [97, 103, 101, 32, 110, 117, 109, 98, 101, 114, 32, 48, 32, 116, 111, 32, 49, 53, 48, 59, 10, 109, 101, 109, 98, 101, 114, 32, 102, 108, 97, 103, 59, 10]
def x2 : List UInt8 := [97, 103, 101, 32, 61, 32, 51, 48, 44, 32, 109, 101, 109, 98, 101, 114, 32, 61, 32, 49]
def dH : Fa.Dom := [⟨[97, 103, 101], 2, 0, 150⟩, ⟨[109, 101, 109, 98, 101, 114], 1, 0, 1⟩]
theorem p1 : Fa.parse s1 = (dH, 0, 0) := by decide +kernel
theorem p2 : Fa.parseCase dH s2 = ([30, 1], 0, 0) := by decide +kernel
theorem p3 : Fa.parseCase dH s3 = ([], 10, 6) := by decide +kernel
theorem p4 : Fa.parseCase dH s4 = ([], 11, 8) := by decide +kernel
theorem p5 : Fa.parse s5 = ([], 10, 16) := by decide +kernel
theorem p6 : Fa.next dH [30, 1] = some [31, 0] := by decide +kernel
theorem p7 : Fa.next dH [150, 1] = none := by decide +kernel
theorem p8 : Fa.least dH = [0, 0] := by decide +kernel
theorem p9 : Fa.text dH = x1 := by decide +kernel
theorem p10 : Fa.caseText dH [30, 1] = x2 := by decide +kernel

/-- the domain in its cell, in the head -/
structure HdW (w W : World) (b : Nat) (v : Value) : Prop where
  one : One W b 24 v
  sl : SlOf W v 4 factC dH
  tab : Tab10 W
  below : Below w.heap.size w W
theorem HdW.step {w W W' : World} {b : Nat} {v : Value} (h : HdW w W b v) (hb : Below W.heap.size W W') : HdW w W' b v := ⟨h.one.below hb, h.sl.below hb, h.tab.below hb, Below.step h.below hb⟩

theorem parse_lit {s : List UInt8} {r : Fa.Dom × Int × Int} (e : Fa.parse s = r) (w : World) (hs : s.length ≤ 4500) : Calls Tryz.prog 6 #[.string (bs s)] w (ParseP w r) := by
  rw [← e]; exact parse_any s w hs
theorem dH_n : ∀ f ∈ dH, f.name.length ≤ 5000 := by decide
theorem case_lit {s : List UInt8} {r : List Int × Int × Int} {v : Value} (e : Fa.parseCase dH s = r) (w : World) (h : SlOf w v 4 factC dH) (hs : s.length ≤ 4500) : Calls Tryz.prog 8 #[.agg #[v], .string (bs s)] w (CaseP w r) := by
  rw [← e]; exact parseCase_any dH v s w h dH_n (by decide) hs
theorem next_lit {c : List Int} {r : Option (List Int)} {v vc : Value} (e : Fa.next dH c = r) (w : World) (h : SlOf w v 4 factC dH) (hc : SlOf w vc 1 numC c) : Calls Tryz.prog 10 #[.agg #[v], vc] w (NextP r w) := by
  rw [← e]; exact factNext_any dH c v vc w h hc dH_n (by decide)
/-- two numbers in a new block -/
theorem two_new (w : World) (x y : Int) : SlOf (w.alloc (.cells #[.int .i64 x, .int .i64 y] 3)) (.slice (some ⟨w.heap.size, 0, none⟩) 2 2) 1 numC [x, y] := by
  refine ⟨_, 2, rfl, by simp, by unfold maxLen; omega, fun _ => ⟨w.heap.size, 0, rfl, by simp, fun i z hi j u hu => ?_⟩⟩
  have hh : (w.alloc (.cells #[.int .i64 x, .int .i64 y] 3)).heap[w.heap.size]? = some (.cells #[.int .i64 x, .int .i64 y] 3 (0, 0)) := alloc_new w _
  simp only [World.cell?, hh]
  match i, hi with
  | 0, hi =>
    simp at hi; subst hi
    match j, hu with
    | 0, hu => simpa [numC] using hu
    | j + 1, hu => simp [numC] at hu
  | 1, hi =>
    simp at hi; subst hi
    match j, hu with
    | 0, hu => simpa [numC] using hu
    | j + 1, hu => simp [numC] at hu
  | i + 2, hi => simp at hi
theorem CaseP.sl {w w' : World} {r : List Int × Int × Int} {e : Ending} (h : CaseP w r e w') : ∃ a c, e = .returned (.tuple #[.slice a r.1.length c, .int .i64 r.2.1, .int .i64 r.2.2]) ∧ SlOf w' (.slice a r.1.length c) 1 numC r.1 ∧ Below w.heap.size w w' := by
  obtain ⟨v, rfl, h1, h2⟩ := h
  obtain ⟨a, c, rfl⟩ := h1.slice
  exact ⟨a, c, rfl, h1.slOf, h2⟩
theorem NumsP.sl {w w' : World} {c : List Int} {e : Ending} (h : NumsP c w e w') : ∃ a k, e = .returned (.slice a c.length k) ∧ SlOf w' (.slice a c.length k) 1 numC c ∧ Below w.heap.size w w' := by
  obtain ⟨v, rfl, h1, h2⟩ := h
  obtain ⟨a, k, rfl⟩ := ownsRow_slice h1
  exact ⟨a, k, rfl, SlOf.own h1 fun x _ => rfl, h2⟩
theorem NextP.sl {w w' : World} {c : List Int} {e : Ending} (h : NextP (some c) w e w') : ∃ a k, e = .returned (.tuple #[.slice a c.length k, .bool true]) ∧ SlOf w' (.slice a c.length k) 1 numC c ∧ Below w.heap.size w w' := by
  obtain ⟨v, rfl, h1, h2⟩ := h
  obtain ⟨a, k, rfl⟩ := ownsRow_slice h1
  exact ⟨a, k, rfl, SlOf.own h1 fun x _ => rfl, h2⟩

theorem below_new (w : World) (o : Obj) : Below w.heap.size w (w.alloc o) := (Below.refl _ w).alloc (Nat.le_refl _) _
theorem two_next (W : World) (o : Obj) (x y : Int) : SlOf ((W.alloc o).alloc (.cells #[.int .i64 x, .int .i64 y] 3)) (.slice (some ⟨W.heap.size + 1, 0, none⟩) 2 2) 1 numC [x, y] := by
  have h := two_new (W.alloc o) x y
  rw [show (W.alloc o).heap.size = W.heap.size + 1 from Array.size_push ..] at h
  exact h

set_option maxRecDepth 100000 in
set_option maxHeartbeats 8000000 in
theorem head_true (w : World) (hT : Tab10 w) : Calls Tryz.prog 4 #[] w (Gives (.bool true) w) := by
  have HT := hid hT
  clear hT
  go_enter Tryz.func4, Tryz.ntmps4
  go_wp2_with fail
  refine (parse_lit p1 w (by decide)).mono ?_
  rintro e w1 ⟨v, rfl, hs1, hb1⟩
  obtain ⟨a1, c1, rfl⟩ := hs1.slice
  obtain ⟨W2, hW2⟩ : ∃ W2, W2 = w1.alloc (.cells #[.slice a1 dH.length c1] 24) := ⟨_, rfl⟩
  have hb2 : Below w1.heap.size w1 W2 := by rw [hW2]; exact (Below.refl _ w1).alloc (Nat.le_refl _) _
  have H2 := hid (show HdW w W2 w1.heap.size (.slice a1 dH.length c1) from ⟨by rw [hW2]; exact One.new w1 _ _, hs1.slOf.below hb2, (HT.out.below hb1).below hb2, Below.step hb1 hb2⟩)
  rw [show dH.length = 2 from rfl] at hW2 H2
  rw [show dH.length = 2 from rfl]
  clear hs1 hb1 hb2
  go_upto_region 2 with (fail)
  rw [← hW2]
  clear hW2
  have c2 := H2.out.one.cell
  have z2 := H2.out.one.lt
  go_wp2_with fail
  refine (case_lit p2 W2 H2.out.sl (by decide)).mono ?_
  rintro e w3 hp
  obtain ⟨a3, k3, rfl, hs3, hb3⟩ := hp.sl
  have H3 := hid (H2.out.step hb3)
  have HA3 := hid hs3
  clear hp hs3 hb3 c2 z2
  have c3 := H3.out.one.cell
  have z3 := H3.out.one.lt
  go_wp2_with fail
  refine (case_lit p3 w3 H3.out.sl (by decide)).mono ?_
  rintro e w4 hp
  obtain ⟨a4, k4, rfl, -, hb4⟩ := hp.sl
  have H4 := hid (H3.out.step hb4)
  have HA4 := hid (HA3.out.below hb4)
  clear hp hb4 c3 z3
  have c4 := H4.out.one.cell
  have z4 := H4.out.one.lt
  go_wp2_with fail
  refine (case_lit p4 w4 H4.out.sl (by decide)).mono ?_
  rintro e w5 hp
  obtain ⟨a5, k5, rfl, -, hb5⟩ := hp.sl
  have H5 := hid (H4.out.step hb5)
  have HA5 := hid (HA4.out.below hb5)
  clear hp hb5 c4 z4
  have c5 := H5.out.one.cell
  have z5 := H5.out.one.lt
  have hal5 : ∀ o, Below w5.heap.size w5 (w5.alloc o) := fun o => (Below.refl _ w5).alloc (Nat.le_refl _) _
  have HN5 := hid (next_lit p6 (w5.alloc (.cells #[.int .i64 30, .int .i64 1] 3)) (H5.out.sl.below (hal5 _)) (two_new w5 30 1))
  have H5a := hid (H5.out.step (hal5 (.cells #[.int .i64 30, .int .i64 1] 3)))
  have HA5a := hid (HA5.out.below (hal5 (.cells #[.int .i64 30, .int .i64 1] 3)))
  clear hal5
  go_wp2_with fail
  refine (HN5.out).mono ?_
  rintro e w6 hp
  obtain ⟨a6, k6, rfl, hs6, hb6⟩ := hp.sl
  have H6 := hid (H5a.out.step hb6)
  have HA6 := hid (HA5a.out.below hb6)
  have HB6 := hid hs6
  clear hp hs6 hb6 c5 z5
  have c6 := H6.out.one.cell
  have z6 := H6.out.one.lt
  have hal6 : ∀ o, Below w6.heap.size w6 (w6.alloc o) := fun o => (Below.refl _ w6).alloc (Nat.le_refl _) _
  have HN6 := hid (next_lit p7 (w6.alloc (.cells #[.int .i64 150, .int .i64 1] 3)) (H6.out.sl.below (hal6 _)) (two_new w6 150 1))
  have H6a := hid (H6.out.step (hal6 (.cells #[.int .i64 150, .int .i64 1] 3)))
  have HA6a := hid (HA6.out.below (hal6 (.cells #[.int .i64 150, .int .i64 1] 3)))
  have HB6a := hid (HB6.out.below (hal6 (.cells #[.int .i64 150, .int .i64 1] 3)))
  clear hal6
  go_wp2_with fail
  refine (HN6.out).mono ?_
  rintro e w7 ⟨rfl, hb7⟩
  have H7 := hid (H6a.out.step hb7)
  have HA7 := hid (HA6a.out.below hb7)
  have HB7 := hid (HB6a.out.below hb7)
  clear hb7 c6 z6
  go_wp2_with fail
  refine (parse_lit p5 w7 (by decide)).mono ?_
  rintro e w8 ⟨v8, rfl, hs8, hb8⟩
  obtain ⟨a8, c8, rfl⟩ := hs8.slice
  have H8 := hid (H7.out.step hb8)
  have HA8 := hid (HA7.out.below hb8)
  have HB8 := hid (HB7.out.below hb8)
  clear hs8 hb8
  go_wp2_with fail
  have hb8 := Below.step (below_new w8 (.cells #[.slice a8 0 c8] 24)) (below_new (w8.alloc (.cells #[.slice a8 0 c8] 24)) (.cells #[.int .i64 30, .int .i64 1] 3))
  have H9 := hid (H8.out.step hb8)
  have HA9 := hid (HA8.out.below hb8)
  have HB9 := hid (HB8.out.below hb8)
  clear hb8
  refine (equal_any [30, 1] [30, 1] _ _ _ HA9.out (two_next w8 _ 30 1)).mono ?_
  rintro e w9 ⟨rfl, hb9⟩
  have H10 := hid (H9.out.step hb9)
  have HA10 := hid (HA9.out.below hb9)
  have HB10 := hid (HB9.out.below hb9)
  clear hb9
  go_wp2_with fail
  have hbn := below_new w9 (.cells #[.int .i64 31, .int .i64 0] 3)
  have H11 := hid (H10.out.step hbn)
  refine (equal_any [31, 0] [31, 0] _ _ _ (HB10.out.below hbn) (two_new w9 31 0)).mono ?_
  rintro e w12 ⟨rfl, hb12⟩
  have H12 := hid (H11.out.step hb12)
  have HA12 := hid ((HA10.out.below hbn).below hb12)
  clear hb12 hbn
  have c12 := H12.out.one.cell
  have z12 := H12.out.one.lt
  go_wp2_with fail
  refine (factLeast_any dH _ w12 H12.out.sl dH_n (by decide)).mono ?_
  rw [p8]
  rintro e w13 hp
  obtain ⟨a13, k13, rfl, hs13, hb13⟩ := hp.sl
  have H13 := hid (H12.out.step hb13)
  have HA13 := hid (HA12.out.below hb13)
  have HC13 := hid hs13
  clear hp hs13 hb13 c12 z12
  go_wp2_with fail
  have hbn := below_new w13 (.cells #[.int .i64 0, .int .i64 0] 3)
  have H14 := hid (H13.out.step hbn)
  refine (equal_any [0, 0] [0, 0] _ _ _ (HC13.out.below hbn) (two_new w13 0 0)).mono ?_
  rintro e w15 ⟨rfl, hb15⟩
  have H15 := hid (H14.out.step hb15)
  have HA15 := hid ((HA13.out.below hbn).below hb15)
  clear hb15 hbn
  have c15 := H15.out.one.cell
  have z15 := H15.out.one.lt
  go_wp2_with fail
  refine (factText_any dH _ w15 H15.out.sl dH_n (by decide) H15.out.tab).mono ?_
  rw [p9, show bs x1 = ⟨#[97, 103, 101, 32, 110, 117, 109, 98, 101, 114, 32, 48, 32, 116, 111, 32, 49, 53, 48, 59, 10, 109, 101, 109, 98, 101, 114, 32, 102, 108, 97, 103, 59, 10]⟩ from rfl]
  rintro e w16 ⟨rfl, hb16⟩
  have H16 := hid (H15.out.step hb16)
  have HA16 := hid (HA15.out.below hb16)
  clear hb16 c15 z15
  have c16 := H16.out.one.cell
  have z16 := H16.out.one.lt
  go_wp2_with fail
  refine (factCaseText_any dH [30, 1] _ _ w16 H16.out.sl HA16.out dH_n (by decide) H16.out.tab).mono ?_
  rw [p10, show bs x2 = ⟨#[97, 103, 101, 32, 61, 32, 51, 48, 44, 32, 109, 101, 109, 98, 101, 114, 32, 61, 32, 49]⟩ from rfl]
  rintro e w17 ⟨rfl, hb17⟩
  have H17 := hid (H16.out.step hb17)
  clear hb17 c16 z16
  go_wp2_with fail
  go_ret
  exact ⟨rfl, H17.out.below⟩

/-- a law's domain in its cell -/
structure HdW' (w W : World) (b : Nat) (v : Value) (d : Fa.Dom) : Prop where
  one : One W b 24 v
  sl : SlOf W v 4 factC d
  tab : Tab10 W
  below : Below w.heap.size w W
theorem HdW'.step {w W W' : World} {b : Nat} {v : Value} {d : Fa.Dom} (h : HdW' w W b v d) (hb : Below W.heap.size W W') : HdW' w W' b v d := ⟨h.one.below hb, h.sl.below hb, h.tab.below hb, Below.step h.below hb⟩

set_option maxRecDepth 100000 in
set_option maxHeartbeats 4000000 in
theorem few_any (d : Fa.Dom) (c : List Int) (v vc : Value) (w : World) (h : SlOf w v 4 factC d) (hc : SlOf w vc 1 numC c) : Calls Tryz.prog 5 #[.agg #[v], vc] w (Gives (.bool (fewD d && decide (c.length ≤ 70))) w) := by
  obtain ⟨W2, hW2⟩ : ∃ W2, W2 = w.alloc (.cells #[v] 24) := ⟨_, rfl⟩
  have hb2 : Below w.heap.size w W2 := by rw [hW2]; exact (Below.refl _ w).alloc (Nat.le_refl _) _
  have H2 := hid (show One W2 w.heap.size 24 v ∧ SlOf W2 v 4 factC d ∧ Below w.heap.size w W2 from ⟨by rw [hW2]; exact One.new w _ _, h.below hb2, hb2⟩)
  obtain ⟨ac, cc, rfl, k1, k2, -⟩ := hc
  have hl1 : c.length ≤ 9223372036854775807 := by unfold maxLen at k2; omega
  clear k1 k2 hb2 h
  obtain ⟨n, hn⟩ : ∃ n, n = c.length := ⟨_, rfl⟩
  rw [← hn] at hl1 ⊢
  clear hn
  go_enter Tryz.func5, Tryz.ntmps5
  go_upto_region 1 with (fail)
  rw [← hW2]
  clear hW2
  have c2 := H2.out.1.cell
  have z2 := H2.out.1.lt
  go_wp2_with fail
  refine (fewRef_any d v W2 H2.out.2.1).mono ?_
  rintro e w3 ⟨rfl, hb3⟩
  cases hd : fewD d with
  | false =>
    go_wp2_with fail
    go_ret
    exact ⟨by rw [hd]; rfl, Below.step H2.out.2.2 hb3⟩
  | true =>
    go_wp2_with fail
    go_ret
    refine ⟨?_, Below.step H2.out.2.2 hb3⟩
    simp
    rw [hd, Bool.true_and]
    exact decide_eq_decide.2 (by omega)

end Go.Proofs.YteogmlgmodeajaaGreatDoor
