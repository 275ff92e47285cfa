/-
  align.Check. Conditions: lengths; the library's tables.
-/
import Derived.Test.YthibphklchalkaaGreatDoorZAl9
namespace Al

def checkOf (t : Rw.Table) (a : Int) (x : List UInt8) (b : Int) (y : List UInt8) (d : D) : Bool :=
  if openB t a x b y then
    match side t.rules a x, side t.rules b y with
    | some S1, some S2 => check ⟨S1, S2⟩ d
    | _, _ => false
  else false

end Al
namespace Go.Proofs.YthibphklchalkaaGreatDoor
open Go.RowKit Go.Lib Go.Maps

theorem DerAt.below {W W' : World} {d : Al.D} {v : List Value} (h : DerAt W d v) (hb : Below W.heap.size W W') : DerAt W' d v := by
  obtain ⟨lv, rv, e, h1, h2⟩ := h
  exact ⟨lv, rv, e, h1.below hb, h2.below hb⟩

theorem str_beq (a b : List UInt8) : ((bs a).toList == (bs b).toList) = decide (a = b) := by
  rw [ByteArray.toList_eq, ByteArray.toList_eq]
  show ((bs a).data.toList == (bs b).data.toList) = _
  rw [bs_list, bs_list, Bool.eq_iff_iff]
  simp

theorem written_get {S : Al.Side} {l : List Int} {f : List UInt8} {c : Int} {b : Bool} (h : match Al.written S 0 l with | some (f', c') => f = f' ∧ c = c' ∧ b = true | none => b = false) :
    (b = true → Al.written S 0 l = some (f, c)) ∧ (b = false → Al.written S 0 l = none) := by
  cases hw : Al.written S 0 l with
  | none => rw [hw] at h; simp only at h; rw [h]; simp
  | some p => obtain ⟨f', c'⟩ := p; rw [hw] at h; obtain ⟨rfl, rfl, rfl⟩ := h; simp

set_option maxRecDepth 100000 in
set_option maxHeartbeats 8000000 in
theorem checkD_any (t : Rw.Table) (tv : Value) (a b : Int) (x y : ByteArray) (d : Al.D) (dv : List Value) (W : World) (ht : TableAt W t tv) (hT : Tabs W) (hx : x.size ≤ 1000000) (hy : y.size ≤ 1000000) (hd : DerAt W d dv) (hl : d.left.length ≤ 1000000) (hr : d.right.length ≤ 1000000) :
    Calls Tryz.prog 11 #[tv, .int .i64 a, .string x, .int .i64 b, .string y, .agg dv.toArray] W (Gives (.bool (Al.checkOf t a x.data.toList b y.data.toList d)) W) := by
  have HT := hid ht
  have HTT := hid hT
  have HDD := hid hd
  obtain ⟨⟨vr, vd, ve, rfl, ⟨ar, cr, rfl, -⟩, ⟨ad, cd, rfl, -⟩, ⟨ae, ce, rfl, -⟩⟩, -, -, -, -, -, -⟩ := ht
  obtain ⟨lv, rv, rfl, hdl, hdr⟩ := hd
  have HDL := hid (And.intro hdl hdr)
  obtain ⟨al, cl, rfl, -, -, -⟩ := hdl
  obtain ⟨ar', cr', rfl, -, -, -⟩ := hdr
  clear hT
  obtain ⟨W1, hW1⟩ : ∃ W1, W1 = (W.alloc (.cells #[.slice ar t.rules.length cr, .slice ad t.drops.length cd, .slice ae t.ends.length ce, .int .i64 t.drop, .int .i64 t.order, .int .i64 t.initial] 25)).alloc (.cells #[.int .i64 d.cost, .slice al d.left.length cl, .slice ar' d.right.length cr', .string (bs d.form)] 28) := ⟨_, rfl⟩
  have hb1 : Below W.heap.size W W1 := by rw [hW1]; exact ((Below.refl _ W).alloc (Nat.le_refl _) _).alloc (by simp) _
  have hd1 : W1.heap[W.heap.size + 1]? = some (.cells #[.int .i64 d.cost, .slice al d.left.length cl, .slice ar' d.right.length cr', .string (bs d.form)] 28 (0, 0)) := by
    rw [hW1]
    have := World.alloc_heap_new (W.alloc (.cells #[.slice ar t.rules.length cr, .slice ad t.drops.length cd, .slice ae t.ends.length ce, .int .i64 t.drop, .int .i64 t.order, .int .i64 t.initial] 25)) (.cells #[.int .i64 d.cost, .slice al d.left.length cl, .slice ar' d.right.length cr', .string (bs d.form)] 28)
    rwa [World.size_alloc] at this
  have HS1 := hid (open_any t _ a b x y W1 (HT.out.below hb1) (HTT.out.below hb1) hx hy)
  have H1 := hid (And.intro hb1 hd1)
  clear hb1 hd1
  go_enter Tryz.func11, Tryz.ntmps11
  go_wp2_with fail
  rw [← hW1]
  clear hW1
  refine (HS1.out).mono ?_
  rintro e W2 ⟨hb2, a1, n1, c1, a2, n2, c2, a3, n3, c3, a4, n4, c4, rfl, hWA⟩
  obtain ⟨hb1, hd1⟩ := H1.out
  cases ho : Al.openB t a x.data.toList b y.data.toList with
  | false =>
    have hno := hid (show Al.checkOf t a x.data.toList b y.data.toList d = false by unfold Al.checkOf; rw [ho]; rfl)
    have R3 := hid ((hb1.trans (hb2.mono hb1.size)).alloc (by have := hb1.size; have := hb2.size; omega) (.cells #[.slice a1 n1 c1, .slice a2 n2 c2, .slice a3 n3 c3, .slice a4 n4 c4] 47))
    clear hb1 hd1 hb2 hWA ho
    go_wp2_with fail
    go_ret
    exact ⟨ret_bool hno.out.symm, R3.out⟩
  | true =>
    obtain ⟨S1, S2, h1, h2, hv⟩ : ∃ S1 S2, Al.side t.rules a x.data.toList = some S1 ∧ Al.side t.rules b y.data.toList = some S2 ∧ Rw.valid t = true := by
      unfold Al.openB at ho
      simp only [Bool.and_eq_true] at ho
      obtain ⟨⟨u, v⟩, z⟩ := ho
      obtain ⟨S1, e1⟩ := Option.isSome_iff_exists.1 u
      obtain ⟨S2, e2⟩ := Option.isSome_iff_exists.1 v
      exact ⟨S1, S2, e1, e2, z⟩
    obtain ⟨fl, fr, hwa⟩ := hWA S1 S2 h1 h2
    have hno := hid (show Al.checkOf t a x.data.toList b y.data.toList d = Al.check ⟨S1, S2⟩ d by unfold Al.checkOf; rw [ho, if_pos rfl, h1, h2])
    obtain ⟨g1, l1, n1', z1⟩ := Al.side_good hv h1
    obtain ⟨g2, l2, n2', z2⟩ := Al.side_good hv h2
    obtain ⟨W3, hW3⟩ : ∃ W3, W3 = W2.alloc (.cells #[.slice a1 n1 c1, .slice a2 n2 c2, .slice a3 n3 c3, .slice a4 n4 c4] 47) := ⟨_, rfl⟩
    have hb3 : Below W2.heap.size W2 W3 := by rw [hW3]; exact (Below.refl _ W2).alloc (Nat.le_refl _) _
    have hs3 : W3.heap[W2.heap.size]? = some (.cells #[.slice a1 n1 c1, .slice a2 n2 c2, .slice a3 n3 c3, .slice a4 n4 c4] 47 (0, 0)) := by rw [hW3]; exact World.alloc_heap_new W2 _
    have hd2 := (hb2.block _ (Array.getElem?_eq_some_iff.1 hd1).1).trans hd1
    have hd3 := (hb3.block _ (Array.getElem?_eq_some_iff.1 hd2).1).trans hd2
    have e1 : W2.cell? ⟨W.heap.size + 1, 1, none⟩ = some (.slice al d.left.length cl) := by simp [World.cell?, hd2]
    have z1' := (Array.getElem?_eq_some_iff.1 hd2).1
    have hbW3 := hb1.trans ((hb2.trans (hb3.mono hb2.size)).mono hb1.size)
    obtain ⟨⟨ll, lr, rl, rr, hvv, q1, q2, q3, q4⟩, qa, qb⟩ := hwa.below hb3
    obtain ⟨rfl, rfl, rfl, rfl⟩ : Value.slice a1 n1 c1 = ll ∧ Value.slice a2 n2 c2 = lr ∧ Value.slice a3 n3 c3 = rl ∧ Value.slice a4 n4 c4 = rr := by simpa using hvv
    have HW1 := hid (written_any S1 g1 l1 z1 (by omega) _ _ (.slice al d.left.length cl) fl d.left W3 q1 q2 qa (HDL.out.1.below hbW3) hl)
    have R3 := hid (And.intro hbW3 (And.intro hs3 (And.intro hd3 (And.intro q3 (And.intro q4 qb)))))
    have G2 := hid (And.intro g2 (And.intro l2 (And.intro n2' z2)))
    clear hb1 hd1 hb2 hWA ho h1 h2 hv hwa g1 l1 n1' z1 g2 l2 n2' z2 hb3 hs3 hd2 hd3 hbW3 q1 q2 q3 q4 qa qb hvv
    go_wp2_with fail
    rw [← hW3]
    clear hW3
    refine (HW1.out).mono ?_
    rintro e W4 ⟨hb4, f, c, ok1, rfl, hf1, hc0, hc1, hw1⟩
    obtain ⟨hbW3, hs3, hd3, q3, q4, qb⟩ := R3.out
    have hs4 := (hb4.block _ (Array.getElem?_eq_some_iff.1 hs3).1).trans hs3
    have hd4 := (hb4.block _ (Array.getElem?_eq_some_iff.1 hd3).1).trans hd3
    have hbW4 := hbW3.trans (hb4.mono hbW3.size)
    have v2 : W4.cell? ⟨W2.heap.size, 2, none⟩ = some (.slice a3 n3 c3) := by simp [World.cell?, hs4]
    have v3 : W4.cell? ⟨W2.heap.size, 3, none⟩ = some (.slice a4 n4 c4) := by simp [World.cell?, hs4]
    have d2 : W4.cell? ⟨W.heap.size + 1, 2, none⟩ = some (.slice ar' d.right.length cr') := by simp [World.cell?, hd4]
    have HW2 := hid (written_any S2 G2.out.1 G2.out.2.1 G2.out.2.2.2 (by have := G2.out.2.2.1; omega) _ _ (.slice ar' d.right.length cr') fr d.right W4 (q3.below hb4) (q4.below hb4) qb (HDL.out.2.below hbW4) hr)
    have R4 := hid (And.intro hbW4 (And.intro hd4 hw1))
    clear hbW3 hs3 hd3 q3 q4 qb hs4 hd4 hbW4 hw1 hb4
    go_wp2_with fail
    refine (HW2.out).mono ?_
    rintro e W5 ⟨hb5, g, c', ok2, rfl, hf2, hc2, hc3, hw2⟩
    obtain ⟨hbW4, hd4, hw1⟩ := R4.out
    have hd5 := (hb5.block _ (Array.getElem?_eq_some_iff.1 hd4).1).trans hd4
    have u0 : W5.cell? ⟨W.heap.size + 1, 0, none⟩ = some (.int .i64 d.cost) := by simp [World.cell?, hd5]
    have u3 : W5.cell? ⟨W.heap.size + 1, 3, none⟩ = some (.string (bs d.form)) := by simp [World.cell?, hd5]
    have hbW5 := hid (hbW4.trans (hb5.mono hbW4.size))
    obtain ⟨t1, t2⟩ := written_get hw1
    obtain ⟨t3, t4⟩ := written_get hw2
    have RR := hid (And.intro (And.intro t1 t2) (And.intro t3 t4))
    clear hbW4 hd4 hw1 hw2 hd5 hb5 t1 t2 t3 t4 v2 v3 d2 e1
    have fin : Hid (∀ r : Bool, r = Al.check ⟨S1, S2⟩ d → Gives (.bool (Al.checkOf t a x.data.toList b y.data.toList d)) W (.returned (.bool r)) W5) := fun r hr => ⟨ret_bool (hr.trans hno.out.symm), hbW5.out⟩
    cases ok1 with
    | false =>
      have hk := hid (show false = Al.check ⟨S1, S2⟩ d by unfold Al.check; rw [RR.out.1.2 rfl])
      go_wp2_with fail
      go_ret
      exact fin.out _ hk.out
    | true =>
      cases ok2 with
      | false =>
        have hk := hid (show false = Al.check ⟨S1, S2⟩ d by unfold Al.check; rw [RR.out.1.1 rfl, RR.out.2.2 rfl])
        go_wp2_with fail
        go_ret
        exact fin.out _ hk.out
      | true =>
        have hch := hid (show Al.check ⟨S1, S2⟩ d = (decide (f = d.form) && decide (g = d.form) && decide (c + c' = d.cost)) by unfold Al.check; rw [RR.out.1.1 rfl, RR.out.2.1 rfl])
        have sb1 := str_beq f d.form
        have sb2 := str_beq g d.form
        cases e1 : decide (f = d.form) with
        | false =>
          rw [e1] at sb1
          have hk := hid (show false = Al.check ⟨S1, S2⟩ d by rw [hch.out, e1]; rfl)
          clear e1 sb2
          go_wp2_with fail
          go_ret
          exact fin.out _ hk.out
        | true =>
          rw [e1] at sb1
          cases e2 : decide (g = d.form) with
          | false =>
            rw [e2] at sb2
            have hk := hid (show false = Al.check ⟨S1, S2⟩ d by rw [hch.out, e1, e2]; rfl)
            clear e1 e2
            go_wp2_with fail
            go_ret
            exact fin.out _ hk.out
          | true =>
            rw [e2] at sb2
            have hk := hid (show (c + c' == d.cost) = Al.check ⟨S1, S2⟩ d by rw [hch.out, e1, e2]; rw [Bool.eq_iff_iff]; simp)
            clear e1 e2
            go_wp2_with fail
            go_ret
            exact fin.out _ hk.out

end Go.Proofs.YthibphklchalkaaGreatDoor
