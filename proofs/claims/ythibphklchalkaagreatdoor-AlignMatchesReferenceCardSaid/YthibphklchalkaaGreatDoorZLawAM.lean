/-
  AlignMatchesReference: the statement's function returns true. Conditions: what can be read of its arguments.
-/
import Derived.Test.YthibphklchalkaaGreatDoorZAlLaws
import Derived.Test.YthibphklchalkaaGreatDoorZRr11
import Derived.Test.YthibphklchalkaaGreatDoorZRr13
import Derived.Test.YthibphklchalkaaGreatDoorZMBase
namespace Go.Proofs.YthibphklchalkaaGreatDoor
open Go.RowKit Go.Lib Go.Maps

set_option maxRecDepth 100000 in
set_option maxHeartbeats 16000000 in
theorem matches_law (t : Rw.Table) (tv : Value) (a : Int) (x : List UInt8) (b : Int) (y : List UInt8) (d : Al.D) (dv : List Value) (W : World) (ht : TableRaw W t tv) (hT : Tabs W) (hx : x.length ≤ maxLen) (hy : y.length ≤ maxLen) (hd : DerAt W d dv) (hdf : d.form.length ≤ maxLen) :
    Calls Tryz.prog 3 #[tv, .int .i64 a, .string (bs x), .int .i64 b, .string (bs y), .agg dv.toArray] W (Gives (.bool true) W) := by
  have HT := hid ht
  have HTT := hid hT
  have HDD := hid hd
  obtain ⟨⟨vr, vd, ve, rfl, ⟨ar, cr, rfl, -⟩, ⟨ad, cd, rfl, -⟩, ⟨ae, ce, rfl, -⟩⟩, -, -, -⟩ := ht
  obtain ⟨lv, rv, rfl, hdl, hdr⟩ := hd
  obtain ⟨al, cl, rfl, l1, l2, -⟩ := hdl
  obtain ⟨ar', cr', rfl, r1, r2, -⟩ := hdr
  unfold maxLen at l2 r2
  clear hT
  obtain ⟨W1, hW1⟩ : ∃ W1, W1 = (W.alloc (.cells #[.slice ar t.rules.length cr, .slice ad t.drops.length cd, .slice ae t.ends.length ce, .int .i64 t.drop, .int .i64 t.order, .int .i64 t.initial] 25)).alloc (.cells #[.int .i64 d.cost, .slice al d.left.length cl, .slice ar' d.right.length cr', .string (bs d.form)] 28) := ⟨_, rfl⟩
  have HB1 := hid (show Below W.heap.size W W1 by rw [hW1]; exact ((Below.refl _ W).alloc (Nat.le_refl _) _).alloc (by simp) _)
  have TB1 := hid (show Blk W1 W.heap.size 25 [.slice ar t.rules.length cr, .slice ad t.drops.length cd, .slice ae t.ends.length ce, .int .i64 t.drop, .int .i64 t.order, .int .i64 t.initial] by
    rw [hW1]; exact (Blk.new W _ _).below ((Below.refl _ _).alloc (Nat.le_refl _) _))
  have DB1 := hid (show Blk W1 (W.heap.size + 1) 28 [.int .i64 d.cost, .slice al d.left.length cl, .slice ar' d.right.length cr', .string (bs d.form)] by
    rw [hW1]
    have := Blk.new (W.alloc (.cells #[.slice ar t.rules.length cr, .slice ad t.drops.length cd, .slice ae t.ends.length ce, .int .i64 t.drop, .int .i64 t.order, .int .i64 t.initial] 25)) 28 [.int .i64 d.cost, .slice al d.left.length cl, .slice ar' d.right.length cr', .string (bs d.form)]
    rwa [World.size_alloc] at this)
  have HH := hid (head_true W1 (HTT.out.below HB1.out))
  go_enter Tryz.func3, Tryz.ntmps3
  go_wp2_with fail
  rw [← hW1]
  clear hW1
  refine (HH.out).mono ?_
  rintro e W2 ⟨rfl, hb2⟩
  have HB2 := hid (Below.step HB1.out hb2)
  have TB2 := hid (TB1.out.below hb2)
  have DB2 := hid (DB1.out.below hb2)
  clear hb2
  have t0 := TB2.out.cell (j := 0) rfl
  have t1 := TB2.out.cell (j := 1) rfl
  have t2 := TB2.out.cell (j := 2) rfl
  have t3 := TB2.out.cell (j := 3) rfl
  have t4 := TB2.out.cell (j := 4) rfl
  have t5 := TB2.out.cell (j := 5) rfl
  have tl := TB2.out.lt
  obtain ⟨W3, hW3⟩ : ∃ W3, W3 = W2.alloc (.cells #[.string (bs x), .string (bs y)] 9) := ⟨_, rfl⟩
  have hb3 : Below W2.heap.size W2 W3 := by rw [hW3]; exact (Below.refl _ W2).alloc (Nat.le_refl _) _
  have hw3 : W3.heap[W2.heap.size]? = some (.cells #[.string (bs x), .string (bs y)] 9 (0, 0)) := by rw [hW3]; exact World.alloc_heap_new W2 _
  have HB3 := hid (Below.step HB2.out hb3)
  have TB3 := hid (TB2.out.below hb3)
  have DB3 := hid (DB2.out.below hb3)
  have HF := hid (fewL_any t _ _ [x, y] W3 (HT.out.below HB3.out) (SlOf.block (sz := 1) (cells := strC) (n := 2) hw3 rfl (fun _ _ => rfl) rfl (by decide)) (fun z hz => by
    simp at hz; rcases hz with rfl | rfl
    · exact hx
    · exact hy))
  clear hb3 hw3
  go_wp2_with fail
  rw [← hW3]
  clear hW3
  refine (HF.out).mono ?_
  rintro e W4 ⟨rfl, hb4⟩
  have HB4 := hid (Below.step HB3.out hb4)
  have TB4 := hid (TB3.out.below hb4)
  have DB4 := hid (DB3.out.below hb4)
  clear hb4 t0 t1 t2 t3 t4 t5 tl
  have u0 := DB4.out.cell (j := 0) rfl
  have u1 := DB4.out.cell (j := 1) rfl
  have u2 := DB4.out.cell (j := 2) rfl
  have u3 := DB4.out.cell (j := 3) rfl
  have ul := DB4.out.lt
  have zf : (bs d.form).size ≤ 9223372036854775807 := by rw [bs_len]; unfold maxLen at hdf; exact hdf
  cases hfew : Al.fewB t [x, y] with
  | false =>
    go_wp2_with fail
    go_ret
    exact ⟨rfl, HB4.out⟩
  | true =>
    by_cases h1 : d.left.length ≤ 30
    rotate_left
    · have h1' : (30 : Int) < (d.left.length : Int) := by omega
      clear h1
      go_wp2_with fail
      go_ret
      exact ⟨rfl, HB4.out⟩
    have h1' : ¬ (30 : Int) < (d.left.length : Int) := by omega
    by_cases h2 : d.right.length ≤ 30
    rotate_left
    · have h2' : (30 : Int) < (d.right.length : Int) := by omega
      clear h1 h2
      go_wp2_with fail
      go_ret
      exact ⟨rfl, HB4.out⟩
    have h2' : ¬ (30 : Int) < (d.right.length : Int) := by omega
    by_cases h3 : d.form.length ≤ 100
    rotate_left
    · have h3' : (100 : Int) < ((bs d.form).size : Int) := by rw [bs_len]; omega
      clear h1 h2 h3
      go_wp2_with fail
      go_ret
      exact ⟨rfl, HB4.out⟩
    have h3' : ¬ (100 : Int) < ((bs d.form).size : Int) := by rw [bs_len]; omega
    have hxy : x.length ≤ 30 ∧ y.length ≤ 30 := by
      unfold Al.fewB at hfew
      simp only [Bool.and_eq_true, List.all_cons, decide_eq_true_eq] at hfew
      exact ⟨hfew.2.1, hfew.2.2.1⟩
    have HSM := hid (And.intro h1 h2)
    have TA := hid (HT.out.few hfew)
    have HBE := hid (best_any t _ a b (bs x) (bs y) W4 (TA.out.below HB4.out) (HTT.out.below HB4.out) (by rw [bs_len]; omega) (by rw [bs_len]; omega))
    rw [bs_list, bs_list] at HBE
    obtain ⟨r, hr⟩ : ∃ r, r = Al.bestOf t a x b y := ⟨_, rfl⟩
    rw [← hr] at HBE
    have HR := hid hr
    clear hfew h1 h2 h3 hr
    have t0 := TB4.out.cell (j := 0) rfl
    have t1 := TB4.out.cell (j := 1) rfl
    have t2 := TB4.out.cell (j := 2) rfl
    have t3 := TB4.out.cell (j := 3) rfl
    have t4 := TB4.out.cell (j := 4) rfl
    have t5 := TB4.out.cell (j := 5) rfl
    have tl := TB4.out.lt
    go_wp2_with fail
    refine (HBE.out).mono ?_
    rintro e W5 h5
    obtain ⟨x1, m1, k1, x2, m2, k2, rfl, hda, hb5⟩ := h5.get
    obtain ⟨W6, hW6⟩ : ∃ W6, W6 = W5.alloc (.cells #[.int .i64 r.1.cost, .slice x1 m1 k1, .slice x2 m2 k2, .string (bs r.1.form)] 28) := ⟨_, rfl⟩
    have hb6 : Below W5.heap.size W5 W6 := by rw [hW6]; exact (Below.refl _ W5).alloc (Nat.le_refl _) _
    have hb46 := Below.step hb5 hb6
    have TB5 := hid (TB4.out.below hb5)
    have TB6 := hid (TB4.out.below hb46)
    have DB6 := hid (DB4.out.below hb46)
    have HB6 := hid (Below.step HB4.out hb46)
    have PB6 := hid (show DerBlk W6 W5.heap.size r.1 x1 m1 k1 x2 m2 k2 by rw [hW6]; exact DerBlk.new hda)
    have HRB := hid (rbest_any t _ a b x y W6 (TA.out.below HB6.out) (by omega) (by omega))
    rw [← HR.out] at HRB
    clear t0 t1 t2 t3 t4 t5 tl hb5 hb6 hb46 hda h5 h1' h2' h3' u0 u1 u2 u3 ul zf
    have t0 := TB5.out.cell (j := 0) rfl
    have t1 := TB5.out.cell (j := 1) rfl
    have t2 := TB5.out.cell (j := 2) rfl
    have t3 := TB5.out.cell (j := 3) rfl
    have t4 := TB5.out.cell (j := 4) rfl
    have t5 := TB5.out.cell (j := 5) rfl
    have tl := TB5.out.lt
    go_upto_region 5 with (fail)
    rw [← hW6]
    clear hW6 t0 t1 t2 t3 t4 t5 tl
    have t0 := TB6.out.cell (j := 0) rfl
    have t1 := TB6.out.cell (j := 1) rfl
    have t2 := TB6.out.cell (j := 2) rfl
    have t3 := TB6.out.cell (j := 3) rfl
    have t4 := TB6.out.cell (j := 4) rfl
    have t5 := TB6.out.cell (j := 5) rfl
    have tl := TB6.out.lt
    go_wp2_with fail
    refine (HRB.out).mono ?_
    rintro e W7 h7
    obtain ⟨y1, o1, q1, y2, o2, q2, rfl, hdb, hb7⟩ := h7.get
    obtain ⟨W8, hW8⟩ : ∃ W8, W8 = W7.alloc (.cells #[.int .i64 r.1.cost, .slice y1 o1 q1, .slice y2 o2 q2, .string (bs r.1.form)] 28) := ⟨_, rfl⟩
    have hb8 : Below W7.heap.size W7 W8 := by rw [hW8]; exact (Below.refl _ W7).alloc (Nat.le_refl _) _
    have hb68 := Below.step hb7 hb8
    have TB8 := hid (TB6.out.below hb68)
    have DB8 := hid (DB6.out.below hb68)
    have HB8 := hid (Below.step HB6.out hb68)
    have PB8 := hid (PB6.out.below hb68)
    have QB8 := hid (show DerBlk W8 W7.heap.size r.1 y1 o1 q1 y2 o2 q2 by rw [hW8]; exact DerBlk.new hdb)
    clear t0 t1 t2 t3 t4 t5 tl hb7 hb8 hb68 hdb h7
    go_upto_region 6 with (fail)
    rw [← hW8]
    clear hW8
    have t0 := TB8.out.cell (j := 0) rfl
    have t1 := TB8.out.cell (j := 1) rfl
    have t2 := TB8.out.cell (j := 2) rfl
    have t3 := TB8.out.cell (j := 3) rfl
    have t4 := TB8.out.cell (j := 4) rfl
    have t5 := TB8.out.cell (j := 5) rfl
    have tl := TB8.out.lt
    have u0 := DB8.out.cell (j := 0) rfl
    have u1 := DB8.out.cell (j := 1) rfl
    have u2 := DB8.out.cell (j := 2) rfl
    have u3 := DB8.out.cell (j := 3) rfl
    have ul := DB8.out.lt
    have p0 := PB8.out.c0
    have p1 := PB8.out.c1
    have p2 := PB8.out.c2
    have p3 := PB8.out.c3
    have pl := PB8.out.lt
    have s0 := QB8.out.c0
    have s1 := QB8.out.c1
    have s2 := QB8.out.c2
    have s3 := QB8.out.c3
    have sl := QB8.out.lt
    have HSA : Hid (∀ X, Below W8.heap.size W8 X → Calls Tryz.prog 10 #[.agg #[.int .i64 r.1.cost, .slice x1 m1 k1, .slice x2 m2 k2, .string (bs r.1.form)], .agg #[.int .i64 r.1.cost, .slice y1 o1 q1, .slice y2 o2 q2, .string (bs r.1.form)]] X (Gives (.bool true) X)) := fun X hX => by
      have := same_any r.1 r.1 _ _ X (PB8.out.der.below hX) (QB8.out.der.below hX)
      rw [decide_eq_true rfl] at this
      exact this
    obtain ⟨ck, hck⟩ : ∃ ck, ck = Al.checkOf t a x b y d := ⟨_, rfl⟩
    have HC1 : Hid (∀ X, Below W8.heap.size W8 X → Calls Tryz.prog 11 #[.agg #[.slice ar t.rules.length cr, .slice ad t.drops.length cd, .slice ae t.ends.length ce, .int .i64 t.drop, .int .i64 t.order, .int .i64 t.initial], .int .i64 a, .string (bs x), .int .i64 b, .string (bs y), .agg #[.int .i64 d.cost, .slice al d.left.length cl, .slice ar' d.right.length cr', .string (bs d.form)]] X (Gives (.bool ck) X)) := fun X hX => by
      have hb := Below.step HB8.out hX
      have := checkD_any t _ a b (bs x) (bs y) d _ X (TA.out.below hb) (HTT.out.below hb) (by rw [bs_len]; omega) (by rw [bs_len]; omega) (HDD.out.below hb) (by have := HSM.out; omega) (by have := HSM.out; omega)
      rw [bs_list, bs_list, ← hck] at this
      exact this
    have HC2 : Hid (∀ X, Below W8.heap.size W8 X → Calls Tryz.prog 12 #[.agg #[.slice ar t.rules.length cr, .slice ad t.drops.length cd, .slice ae t.ends.length ce, .int .i64 t.drop, .int .i64 t.order, .int .i64 t.initial], .int .i64 a, .string (bs x), .int .i64 b, .string (bs y), .agg #[.int .i64 d.cost, .slice al d.left.length cl, .slice ar' d.right.length cr', .string (bs d.form)]] X (Gives (.bool ck) X)) := fun X hX => by
      have hb := Below.step HB8.out hX
      have := rcheckD_any t _ a b x y d _ X (TA.out.below hb) (by omega) (by omega) (HDD.out.below hb) (by have := HSM.out; omega) (by have := HSM.out; omega)
      rw [← hck] at this
      exact this
    have hcc : (ck == ck) = true := by simp
    have hrr : (r.2 == r.2) = true := by simp
    clear hck
    refine wp_heldS (S := StillAt W8) (by kernel_rfl) ?_
    simp only [List.size_toArray, List.length_cons, List.length_nil, Nat.reduceAdd]
    intro hc
    have S0 : StillAt W8 (Array.replicate 29 false) W8.drew := (Below.refl _ _).drew
    refine wpAnyS_take (i := 0) (v := .bool true) rfl (by kernel_rfl) (by kernel_rfl) (by kernel_rfl) (fun _ _ _ h => h) (fun _ _ => Iff.rfl) hc (by first | rfl | simp [Region.wanted]) (fun wx hx => ?_) S0 (fun hc S0 => ?_)
    · go_simp
    try simp only [List.getElem_toArray, List.getElem_cons_zero, Act.put, List.setIfInBounds_toArray, List.set_cons_zero, List.set_cons_succ]
    refine wpAnyS_take (i := 1) (v := .bool true) rfl (by kernel_rfl) (by kernel_rfl) (by kernel_rfl) (fun _ _ _ h => h) (fun _ _ => Iff.rfl) hc (by first | rfl | simp [Region.wanted]) (fun wx hx => ?_) S0 (fun hc S0 => ?_)
    · go_simp
    try simp only [List.getElem_toArray, List.getElem_cons_succ, List.getElem_cons_zero, Act.put, List.setIfInBounds_toArray, List.set_cons_zero, List.set_cons_succ]
    refine wpAnyS_take (i := 2) (v := .int .i64 r.2) rfl (by kernel_rfl) (by kernel_rfl) (by kernel_rfl) (fun _ _ _ h => h) (fun _ _ => Iff.rfl) hc (by first | rfl | simp [Region.wanted]) (fun wx hx => ?_) S0 (fun hc S0 => ?_)
    · go_simp
    try simp only [List.getElem_toArray, List.getElem_cons_succ, List.getElem_cons_zero, Act.put, List.setIfInBounds_toArray, List.set_cons_zero, List.set_cons_succ]
    refine wpAnyS_take (i := 3) (v := .int .i64 r.2) rfl (by kernel_rfl) (by kernel_rfl) (by kernel_rfl) (fun _ _ _ h => h) (fun _ _ => Iff.rfl) hc (by first | rfl | simp [Region.wanted]) (fun wx hx => ?_) S0 (fun hc S0 => ?_)
    · go_simp
    try simp only [List.getElem_toArray, List.getElem_cons_succ, List.getElem_cons_zero, Act.put, List.setIfInBounds_toArray, List.set_cons_zero, List.set_cons_succ]
    refine wpAnyS_take (i := 4) (v := .bool true) rfl (by kernel_rfl) (by kernel_rfl) (by kernel_rfl) (fun _ _ _ h => h) (fun _ _ => Iff.rfl) hc (by first | rfl | simp [Region.wanted]) (fun wx hx => ?_) S0 (fun hc S0 => ?_)
    · go_simp
    try simp only [List.getElem_toArray, List.getElem_cons_succ, List.getElem_cons_zero, Act.put, List.setIfInBounds_toArray, List.set_cons_zero, List.set_cons_succ]
    refine wpAnyS_take (i := 5) (v := .bool true) rfl (by kernel_rfl) (by kernel_rfl) (by kernel_rfl) (fun _ _ _ h => h) (fun _ _ => Iff.rfl) hc (by first | rfl | simp [Region.wanted]) (fun wx hx => ?_) S0 (fun hc S0 => ?_)
    · go_simp
    try simp only [List.getElem_toArray, List.getElem_cons_succ, List.getElem_cons_zero, Act.put, List.setIfInBounds_toArray, List.set_cons_zero, List.set_cons_succ]
    refine wpAnyS_take (i := 6) (v := .bool true) rfl (by kernel_rfl) (by kernel_rfl) (by kernel_rfl) (fun _ _ _ h => h) (fun _ _ => Iff.rfl) hc (by first | rfl | simp [Region.wanted]) (fun wx hx => ?_) S0 (fun hc S0 => ?_)
    · go_simp
    try simp only [List.getElem_toArray, List.getElem_cons_succ, List.getElem_cons_zero, Act.put, List.setIfInBounds_toArray, List.set_cons_zero, List.set_cons_succ]
    refine wpAnyS_take (i := 7) (v := .agg #[.int .i64 r.1.cost, .slice x1 m1 k1, .slice x2 m2 k2, .string (bs r.1.form)]) rfl (by kernel_rfl) (by kernel_rfl) (by kernel_rfl) (fun _ _ _ h => h) (fun _ _ => Iff.rfl) hc (by first | rfl | simp [Region.wanted]) (fun wx hx => ?_) S0 (fun hc S0 => ?_)
    · have y0 := (hx.still.cell (p := ⟨W5.heap.size, 0, none⟩) pl).trans p0; have y1 := (hx.still.cell (p := ⟨W5.heap.size, 1, none⟩) pl).trans p1; have y2 := (hx.still.cell (p := ⟨W5.heap.size, 2, none⟩) pl).trans p2; have y3 := (hx.still.cell (p := ⟨W5.heap.size, 3, none⟩) pl).trans p3
      go_simp
    try simp only [List.getElem_toArray, List.getElem_cons_succ, List.getElem_cons_zero, Act.put, List.setIfInBounds_toArray, List.set_cons_zero, List.set_cons_succ]
    refine wpAnyS_take (i := 8) (v := .agg #[.int .i64 r.1.cost, .slice y1 o1 q1, .slice y2 o2 q2, .string (bs r.1.form)]) rfl (by kernel_rfl) (by kernel_rfl) (by kernel_rfl) (fun _ _ _ h => h) (fun _ _ => Iff.rfl) hc (by first | rfl | simp [Region.wanted]) (fun wx hx => ?_) S0 (fun hc S0 => ?_)
    · have y0 := (hx.still.cell (p := ⟨W7.heap.size, 0, none⟩) sl).trans s0; have y1' := (hx.still.cell (p := ⟨W7.heap.size, 1, none⟩) sl).trans s1; have y2' := (hx.still.cell (p := ⟨W7.heap.size, 2, none⟩) sl).trans s2; have y3 := (hx.still.cell (p := ⟨W7.heap.size, 3, none⟩) sl).trans s3
      go_simp
    try simp only [List.getElem_toArray, List.getElem_cons_succ, List.getElem_cons_zero, Act.put, List.setIfInBounds_toArray, List.set_cons_zero, List.set_cons_succ]
    refine wpAnyS_one (i := 9) rfl (by kernel_rfl) (by rfl) hc (fun K' hK => ?_)
    go_simp
    refine (HSA.out _ (Below.refl _ _).drew).mono ?_
    rintro e X1 ⟨rfl, hx1⟩
    have hX1 : Below W8.heap.size W8 X1 := Below.step (Below.refl _ W8).drew hx1
    refine hK.out _ _ hX1 (fun hc => ?_)
    clear hK K'
    have S0 : StillAt W8 #[] X1 := hX1
    try simp only [List.getElem_toArray, List.getElem_cons_succ, List.getElem_cons_zero, Act.put, List.setIfInBounds_toArray, List.set_cons_zero, List.set_cons_succ]
    refine wpAnyS_take (i := 10) (v := .bool true) rfl (by kernel_rfl) (by kernel_rfl) (by kernel_rfl) (fun _ _ _ h => h) (fun _ _ => Iff.rfl) hc (by first | rfl | simp [Region.wanted]) (fun wx hx => ?_) S0 (fun hc S0 => ?_)
    · go_simp
    try simp only [List.getElem_toArray, List.getElem_cons_succ, List.getElem_cons_zero, Act.put, List.setIfInBounds_toArray, List.set_cons_zero, List.set_cons_succ]
    refine wpAnyS_take (i := 11) (v := .bool true) rfl (by kernel_rfl) (by kernel_rfl) (by kernel_rfl) (fun _ _ _ h => h) (fun _ _ => Iff.rfl) hc (by first | rfl | simp [Region.wanted]) (fun wx hx => ?_) S0 (fun hc S0 => ?_)
    · go_simp
    try simp only [List.getElem_toArray, List.getElem_cons_succ, List.getElem_cons_zero, Act.put, List.setIfInBounds_toArray, List.set_cons_zero, List.set_cons_succ]
    refine wpAnyS_take (i := 12) (v := .agg #[.slice ar t.rules.length cr, .slice ad t.drops.length cd, .slice ae t.ends.length ce, .int .i64 t.drop, .int .i64 t.order, .int .i64 t.initial]) rfl (by kernel_rfl) (by kernel_rfl) (by kernel_rfl) (fun _ _ _ h => h) (fun _ _ => Iff.rfl) hc (by first | rfl | simp [Region.wanted]) (fun wx hx => ?_) S0 (fun hc S0 => ?_)
    · have z0 := (hx.still.cell (p := ⟨W.heap.size, 0, none⟩) tl).trans t0; have z1 := (hx.still.cell (p := ⟨W.heap.size, 1, none⟩) tl).trans t1; have z2 := (hx.still.cell (p := ⟨W.heap.size, 2, none⟩) tl).trans t2; have z3 := (hx.still.cell (p := ⟨W.heap.size, 3, none⟩) tl).trans t3; have z4 := (hx.still.cell (p := ⟨W.heap.size, 4, none⟩) tl).trans t4; have z5 := (hx.still.cell (p := ⟨W.heap.size, 5, none⟩) tl).trans t5
      go_simp
    try simp only [List.getElem_toArray, List.getElem_cons_succ, List.getElem_cons_zero, Act.put, List.setIfInBounds_toArray, List.set_cons_zero, List.set_cons_succ]
    refine wpAnyS_take (i := 13) (v := .int .i64 a) rfl (by kernel_rfl) (by kernel_rfl) (by kernel_rfl) (fun _ _ _ h => h) (fun _ _ => Iff.rfl) hc (by first | rfl | simp [Region.wanted]) (fun wx hx => ?_) S0 (fun hc S0 => ?_)
    · go_simp
    try simp only [List.getElem_toArray, List.getElem_cons_succ, List.getElem_cons_zero, Act.put, List.setIfInBounds_toArray, List.set_cons_zero, List.set_cons_succ]
    refine wpAnyS_take (i := 14) (v := .string (bs x)) rfl (by kernel_rfl) (by kernel_rfl) (by kernel_rfl) (fun _ _ _ h => h) (fun _ _ => Iff.rfl) hc (by first | rfl | simp [Region.wanted]) (fun wx hx => ?_) S0 (fun hc S0 => ?_)
    · go_simp
    try simp only [List.getElem_toArray, List.getElem_cons_succ, List.getElem_cons_zero, Act.put, List.setIfInBounds_toArray, List.set_cons_zero, List.set_cons_succ]
    refine wpAnyS_take (i := 15) (v := .int .i64 b) rfl (by kernel_rfl) (by kernel_rfl) (by kernel_rfl) (fun _ _ _ h => h) (fun _ _ => Iff.rfl) hc (by first | rfl | simp [Region.wanted]) (fun wx hx => ?_) S0 (fun hc S0 => ?_)
    · go_simp
    try simp only [List.getElem_toArray, List.getElem_cons_succ, List.getElem_cons_zero, Act.put, List.setIfInBounds_toArray, List.set_cons_zero, List.set_cons_succ]
    refine wpAnyS_take (i := 16) (v := .string (bs y)) rfl (by kernel_rfl) (by kernel_rfl) (by kernel_rfl) (fun _ _ _ h => h) (fun _ _ => Iff.rfl) hc (by first | rfl | simp [Region.wanted]) (fun wx hx => ?_) S0 (fun hc S0 => ?_)
    · go_simp
    try simp only [List.getElem_toArray, List.getElem_cons_succ, List.getElem_cons_zero, Act.put, List.setIfInBounds_toArray, List.set_cons_zero, List.set_cons_succ]
    refine wpAnyS_take (i := 17) (v := .agg #[.int .i64 d.cost, .slice al d.left.length cl, .slice ar' d.right.length cr', .string (bs d.form)]) rfl (by kernel_rfl) (by kernel_rfl) (by kernel_rfl) (fun _ _ _ h => h) (fun _ _ => Iff.rfl) hc (by first | rfl | simp [Region.wanted]) (fun wx hx => ?_) S0 (fun hc S0 => ?_)
    · have z0 := (hx.still.cell (p := ⟨W.heap.size + 1, 0, none⟩) ul).trans u0; have z1 := (hx.still.cell (p := ⟨W.heap.size + 1, 1, none⟩) ul).trans u1; have z2 := (hx.still.cell (p := ⟨W.heap.size + 1, 2, none⟩) ul).trans u2; have z3 := (hx.still.cell (p := ⟨W.heap.size + 1, 3, none⟩) ul).trans u3
      go_simp
    try simp only [List.getElem_toArray, List.getElem_cons_succ, List.getElem_cons_zero, Act.put, List.setIfInBounds_toArray, List.set_cons_zero, List.set_cons_succ]
    refine wpAnyS_take (i := 19) (v := .agg #[.slice ar t.rules.length cr, .slice ad t.drops.length cd, .slice ae t.ends.length ce, .int .i64 t.drop, .int .i64 t.order, .int .i64 t.initial]) rfl (by kernel_rfl) (by kernel_rfl) (by kernel_rfl) (fun _ _ _ h => h) (fun _ _ => Iff.rfl) hc (by first | rfl | simp [Region.wanted]) (fun wx hx => ?_) S0 (fun hc S0 => ?_)
    · have z0 := (hx.still.cell (p := ⟨W.heap.size, 0, none⟩) tl).trans t0; have z1 := (hx.still.cell (p := ⟨W.heap.size, 1, none⟩) tl).trans t1; have z2 := (hx.still.cell (p := ⟨W.heap.size, 2, none⟩) tl).trans t2; have z3 := (hx.still.cell (p := ⟨W.heap.size, 3, none⟩) tl).trans t3; have z4 := (hx.still.cell (p := ⟨W.heap.size, 4, none⟩) tl).trans t4; have z5 := (hx.still.cell (p := ⟨W.heap.size, 5, none⟩) tl).trans t5
      go_simp
    try simp only [List.getElem_toArray, List.getElem_cons_succ, List.getElem_cons_zero, Act.put, List.setIfInBounds_toArray, List.set_cons_zero, List.set_cons_succ]
    refine wpAnyS_take (i := 20) (v := .int .i64 a) rfl (by kernel_rfl) (by kernel_rfl) (by kernel_rfl) (fun _ _ _ h => h) (fun _ _ => Iff.rfl) hc (by first | rfl | simp [Region.wanted]) (fun wx hx => ?_) S0 (fun hc S0 => ?_)
    · go_simp
    try simp only [List.getElem_toArray, List.getElem_cons_succ, List.getElem_cons_zero, Act.put, List.setIfInBounds_toArray, List.set_cons_zero, List.set_cons_succ]
    refine wpAnyS_take (i := 21) (v := .string (bs x)) rfl (by kernel_rfl) (by kernel_rfl) (by kernel_rfl) (fun _ _ _ h => h) (fun _ _ => Iff.rfl) hc (by first | rfl | simp [Region.wanted]) (fun wx hx => ?_) S0 (fun hc S0 => ?_)
    · go_simp
    try simp only [List.getElem_toArray, List.getElem_cons_succ, List.getElem_cons_zero, Act.put, List.setIfInBounds_toArray, List.set_cons_zero, List.set_cons_succ]
    refine wpAnyS_take (i := 22) (v := .int .i64 b) rfl (by kernel_rfl) (by kernel_rfl) (by kernel_rfl) (fun _ _ _ h => h) (fun _ _ => Iff.rfl) hc (by first | rfl | simp [Region.wanted]) (fun wx hx => ?_) S0 (fun hc S0 => ?_)
    · go_simp
    try simp only [List.getElem_toArray, List.getElem_cons_succ, List.getElem_cons_zero, Act.put, List.setIfInBounds_toArray, List.set_cons_zero, List.set_cons_succ]
    refine wpAnyS_take (i := 23) (v := .string (bs y)) rfl (by kernel_rfl) (by kernel_rfl) (by kernel_rfl) (fun _ _ _ h => h) (fun _ _ => Iff.rfl) hc (by first | rfl | simp [Region.wanted]) (fun wx hx => ?_) S0 (fun hc S0 => ?_)
    · go_simp
    try simp only [List.getElem_toArray, List.getElem_cons_succ, List.getElem_cons_zero, Act.put, List.setIfInBounds_toArray, List.set_cons_zero, List.set_cons_succ]
    refine wpAnyS_take (i := 24) (v := .agg #[.int .i64 d.cost, .slice al d.left.length cl, .slice ar' d.right.length cr', .string (bs d.form)]) rfl (by kernel_rfl) (by kernel_rfl) (by kernel_rfl) (fun _ _ _ h => h) (fun _ _ => Iff.rfl) hc (by first | rfl | simp [Region.wanted]) (fun wx hx => ?_) S0 (fun hc S0 => ?_)
    · have z0 := (hx.still.cell (p := ⟨W.heap.size + 1, 0, none⟩) ul).trans u0; have z1 := (hx.still.cell (p := ⟨W.heap.size + 1, 1, none⟩) ul).trans u1; have z2 := (hx.still.cell (p := ⟨W.heap.size + 1, 2, none⟩) ul).trans u2; have z3 := (hx.still.cell (p := ⟨W.heap.size + 1, 3, none⟩) ul).trans u3
      go_simp
    try simp only [List.getElem_toArray, List.getElem_cons_succ, List.getElem_cons_zero, Act.put, List.setIfInBounds_toArray, List.set_cons_zero, List.set_cons_succ]
    refine wpAnyS_one (i := 18) rfl (by kernel_rfl) (by rfl) hc (fun K' hK => ?_)
    go_simp
    refine (HC1.out _ hX1).mono ?_
    rintro e X2 ⟨rfl, hx2⟩
    have hX2 : Below W8.heap.size W8 X2 := Below.step hX1 hx2
    refine hK.out _ _ hX2 (fun hc => ?_)
    clear hK K'
    have S0 : StillAt W8 #[] X2 := hX2
    try simp only [List.getElem_toArray, List.getElem_cons_succ, List.getElem_cons_zero, Act.put, List.setIfInBounds_toArray, List.set_cons_zero, List.set_cons_succ]
    refine wpAnyS_one (i := 25) rfl (by kernel_rfl) (by rfl) hc (fun K' hK => ?_)
    go_simp
    refine (HC2.out _ hX2).mono ?_
    rintro e X3 ⟨rfl, hx3⟩
    have hX3 : Below W8.heap.size W8 X3 := Below.step hX2 hx3
    refine hK.out _ _ hX3 (fun hc => ?_)
    clear hK K'
    have S0 : StillAt W8 #[] X3 := hX3
    try simp only [List.getElem_toArray, List.getElem_cons_succ, List.getElem_cons_zero, Act.put, List.setIfInBounds_toArray, List.set_cons_zero, List.set_cons_succ]
    refine wpAnyS_take (i := 26) (v := .bool true) rfl (by kernel_rfl) (by kernel_rfl) (by kernel_rfl) (fun _ _ _ h => h) (fun _ _ => Iff.rfl) hc (by first | rfl | simp [Region.wanted]) (fun wx hx => ?_) S0 (fun hc S0 => ?_)
    · go_simp
    try simp only [List.getElem_toArray, List.getElem_cons_succ, List.getElem_cons_zero, Act.put, List.setIfInBounds_toArray, List.set_cons_zero, List.set_cons_succ]
    refine wpAnyS_take (i := 27) (v := .bool true) rfl (by kernel_rfl) (by kernel_rfl) (by kernel_rfl) (fun _ _ _ h => h) (fun _ _ => Iff.rfl) hc (by first | rfl | simp [Region.wanted]) (fun wx hx => ?_) S0 (fun hc S0 => ?_)
    · go_simp
    try simp only [List.getElem_toArray, List.getElem_cons_succ, List.getElem_cons_zero, Act.put, List.setIfInBounds_toArray, List.set_cons_zero, List.set_cons_succ]
    refine wpAnyS_one (i := 28) rfl (by kernel_rfl) (by rfl) hc (fun K' hK => ?_)
    go_simp
    refine hK.out _ _ hX3 (fun hc => ?_)
    clear hK K'
    have S0 : StillAt W8 #[] X3 := hX3
    try simp only [List.getElem_toArray, List.getElem_cons_succ, List.getElem_cons_zero, Act.put, List.setIfInBounds_toArray, List.set_cons_zero, List.set_cons_succ]
    refine wpAnyS_done (by kernel_rfl) ?_ _
    clear hc S0
    have HE := hid (Below.step HB8.out hX3)
    clear hX1 hX2 hX3 hx1 hx2 hx3
    go_wp2_with fail
    go_ret
    exact ⟨rfl, HE.out⟩

end Go.Proofs.YthibphklchalkaaGreatDoor
