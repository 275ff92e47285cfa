/-
 The law file's head of chapter 10: the chapter's examples: head returns true. Conditions: the library's tables.
-/
import Derived.Test.YtdchjacccmajcaaGreatDoorZRn6
namespace Go.Proofs.YtdchjacccmajcaaGreatDoor
open Go.RowKit Go.Lib Go.Maps

/-- Forms' answer, known -/
def FmR (out : List (List UInt8)) (costs : List Int) (W : World) (e : Ending) (W' : World) : Prop :=
 ∃ oa oc ua uc, e = .returned (.tuple #[.slice oa out.length oc, .slice ua costs.length uc, .int .i64 0]) ∧ SlOf W' (.slice oa out.length oc) 1 strC out ∧ SlOf W' (.slice ua costs.length uc) 1 numC costs ∧ Below W.heap.size W W'
theorem forms_is {t : Rw.Table} {tv : Value} {k : Int} {word : ByteArray} {most : Int} {W : World} {out : List (List UInt8)} {costs : List Int} (ht : TableAt W t tv) (hT : Tabs W) (hw : word.size ≤ 1000000) (hv : Rw.valid t = true) (hl : Fo.letters k word.data.toList ≠ []) (hF : Fo.Forms Fo.lt (Fo.letters k word.data.toList) (Al.rulesFrom k 0 t.rules) most out costs) :
  Calls Tryz.prog 17 #[tv, .int .i64 k, .string word, .int .i64 most] W (FmR out costs W) := by
 refine (forms_any t tv k word most W ht hT hw).mono ?_
 rintro e W' ⟨hb, ⟨h, -⟩ | ⟨-, -, ⟨h, -⟩ | ⟨v, u, o2, c2, rfl, h1, h2, h3⟩⟩⟩
 ·rcases h with h | h
  ·exact absurd h hl
  ·rw [hv] at h; cases h
 ·exact absurd h hF.not_many
 ·obtain ⟨rfl, rfl⟩ := Fo.Forms.uniq Fo.lt_irrefl Fo.lt_asymm (Fo.good_rules hv k) h3 hF
  obtain ⟨oa, oc, rfl, -⟩ := id h1
  obtain ⟨ua, uc, rfl, -⟩ := id h2
  exact ⟨oa, oc, ua, uc, rfl, h1, h2, hb⟩
theorem forms_no {t : Rw.Table} {tv : Value} {k : Int} {word : ByteArray} {most : Int} {W : World} (ht : TableAt W t tv) (hT : Tabs W) (hw : word.size ≤ 1000000) (h : Fo.letters k word.data.toList = [] ∨ Rw.valid t = false) :
  Calls Tryz.prog 17 #[tv, .int .i64 k, .string word, .int .i64 most] W (Gives (.tuple #[.slice none 0 0, .slice none 0 0, .int .i64 1]) W) := by
 refine (forms_any t tv k word most W ht hT hw).mono ?_
 rintro e W' ⟨hb, ⟨-, rfl⟩ | ⟨h1, h2, -⟩⟩
 ·exact ⟨rfl, hb⟩
 ·rcases h with h | h
  ·exact absurd h h1
  ·rw [h] at h2; cases h2
/-- Variants' answer, known -/
def VrR (vs : List Rw.Vr) (W : World) (e : Ending) (W' : World) : Prop :=
 ∃ a c, e = .returned (.tuple #[.slice a vs.length c, .int .i64 0]) ∧ SlOf W' (.slice a vs.length c) 3 vrC vs ∧ Below W.heap.size W W'
theorem variants_is {t : Rw.Table} {tv : Value} {k : Int} {word : List UInt8} {W : World} {vs : List Rw.Vr} (ht : TableAt W t tv) (hT : Tabs W) (hw : word.length ≤ 1000000) (h : Rw.variants t k word = (vs, 0)) : Calls Tryz.prog 21 #[tv, .int .i64 k, .string (bs word)] W (VrR vs W) := by
 refine (variants_any t tv k word W ht hT hw).mono ?_
 rintro e W' ⟨v, rfl, h1, h2⟩
 rw [h] at h1 ⊢
 have h3 : SlOf W' v 3 vrC vs := SlOf.own h1 (fun _ _ => rfl)
 obtain ⟨a, c, rfl, -⟩ := id h3
 exact ⟨a, c, rfl, h3, h2⟩
/-- comparing with lists written out -/
theorem sameForms_lit {out : List (List UInt8)} {costs : List Int} {X : World} {va vm : Value} {n m : Nat} {cl cm : Array Value} (h1 : SlOf X va 1 strC out) (h2 : SlOf X vm 1 numC costs) (hcl : cl.toList = out.flatMap strC) (hcm : cm.toList = costs.flatMap numC) (hn : n = out.length) (hm : m = costs.length) (hlen : costs.length = out.length) (b1 : n ≤ maxLen) (b2 : m ≤ maxLen) :
  Calls Tryz.prog 19 #[va, vm, .slice (some ⟨X.heap.size, 0, none⟩) n n, .slice (some ⟨X.heap.size + 1, 0, none⟩) m m] ((X.alloc (.cells cl 9)).alloc (.cells cm 3)) (Gives (.bool true) X) := by
 have hb : Below X.heap.size X ((X.alloc (.cells cl 9)).alloc (.cells cm 3)) := ((Below.refl _ X).alloc (Nat.le_refl _) _).alloc (by simp) _
 have e1 : ((X.alloc (.cells cl 9)).alloc (.cells cm 3)).heap[X.heap.size]? = some (.cells cl 9 (0, 0)) := (Below.heap_alloc _ _ _ (by simp)).trans (World.alloc_heap_new X _)
 have e2 : ((X.alloc (.cells cl 9)).alloc (.cells cm 3)).heap[X.heap.size + 1]? = some (.cells cm 3 (0, 0)) := by
  have := World.alloc_heap_new (X.alloc (.cells cl 9)) (.cells cm 3)
  rwa [World.size_alloc] at this
 refine (sameForms_any out costs out costs _ _ _ _ _ (h1.below hb) (h2.below hb) (SlOf.block e1 hcl (fun _ _ => rfl) hn b1) (SlOf.block e2 hcm (fun _ _ => rfl) hm b2)).mono ?_
 rintro e W' ⟨rfl, h⟩
 exact ⟨by rw [sameForms_yes rfl rfl hlen], Below.step hb h⟩
theorem sameVar_lit {vs : List Rw.Vr} {X : World} {va : Value} {n : Nat} {cl : Array Value} (h1 : SlOf X va 3 vrC vs) (hcl : cl.toList = vs.flatMap vrC) (hn : n = vs.length) (b1 : n ≤ maxLen) :
  Calls Tryz.prog 23 #[va, .slice (some ⟨X.heap.size, 0, none⟩) n n] (X.alloc (.cells cl 54)) (Gives (.bool true) X) := by
 have hb : Below X.heap.size X (X.alloc (.cells cl 54)) := (Below.refl _ X).alloc (Nat.le_refl _) _
 refine (sameVar_any vs vs _ _ _ (h1.below hb) (SlOf.block (alloc_new X _) hcl (fun _ _ => rfl) hn b1)).mono ?_
 rintro e W' ⟨rfl, h⟩
 exact ⟨by rw [decide_eq_true rfl], Below.step hb h⟩

set_option maxRecDepth 100000 in
set_option maxHeartbeats 20000000 in
theorem head_true (W : World) (hT : Tabs W) (h10 : Tab10 W) : Calls Tryz.prog 12 #[] W (Gives (.bool true) W) := by
 have HT := hid hT
 have H10 := hid h10
 clear hT h10
 go_enter Tryz.func12, Tryz.ntmps12
 go_wp2_with fail
 refine (table_any _).mono ?_
 rintro e W1 ⟨g, c, d, q, rfl, hta, hb1⟩
 unfold tabV
 obtain ⟨W2, hW2⟩ : ∃ W2, W2 = W1.alloc (.cells #[.slice (some ⟨g, 0, none⟩) 6 c, .slice (some ⟨d, 0, none⟩) 1 1, .slice (some ⟨q, 0, none⟩) 1 1, .int .i64 4, .int .i64 2, .int .i64 1] 25) := ⟨_, rfl⟩
 have hb2 : Below W1.heap.size W1 W2 := by rw [hW2]; exact (Below.refl _ W1).alloc (Nat.le_refl _) _
 have B2 := hid (Below.step hb1 hb2)
 have T2 := hid (show Blk W2 W1.heap.size 25 [.slice (some ⟨g, 0, none⟩) 6 c, .slice (some ⟨d, 0, none⟩) 1 1, .slice (some ⟨q, 0, none⟩) 1 1, .int .i64 4, .int .i64 2, .int .i64 1] by rw [hW2]; exact Blk.new W1 _ _)
 have Q2 := hid (hta.below hb2)
 have c6 := hta.cap
 have HC6 := hid c6
 clear hb1 hb2 hta
 have t0 := T2.out.cell (j := 0) rfl
 have t1 := T2.out.cell (j := 1) rfl
 have t2 := T2.out.cell (j := 2) rfl
 have t3 := T2.out.cell (j := 3) rfl
 have t4 := T2.out.cell (j := 4) rfl
 have t5 := T2.out.cell (j := 5) rfl
 have tl := T2.out.lt
 have C2 := hid (forms_is (k := 1) (word := ⟨#[97, 110, 110, 97]⟩) (most := 5) Q2.out.one (HT.out.below B2.out) (by decide) Rw.tab_valid (by rw [show (⟨#[97, 110, 110, 97]⟩ : ByteArray).data.toList = [97, 110, 110, 97] from rfl]; rw [show Fo.letters 1 [97, 110, 110, 97] = _ from Rw.let_anna]; simp) Rw.forms_anna)
 unfold tabV at C2
 go_wp2_with fail
 rw [← hW2]
 clear hW2
 refine (C2.out).mono ?_
 rintro e W3 ⟨xa, xc, xb, xd, rfl, hx1, hx2, hb⟩
 have Hx := hid (And.intro hx1 hx2)
 have B3 := hid (Below.step B2.out hb)
 have T3 := hid (T2.out.below hb)
 have Q3 := hid (Q2.out.below hb)
 clear hb hx1 hx2 t0 t1 t2 t3 t4 t5 tl
 have t0 := T3.out.cell (j := 0) rfl
 have t1 := T3.out.cell (j := 1) rfl
 have t2 := T3.out.cell (j := 2) rfl
 have t3 := T3.out.cell (j := 3) rfl
 have t4 := T3.out.cell (j := 4) rfl
 have t5 := T3.out.cell (j := 5) rfl
 have tl := T3.out.lt
 have C3 := hid (forms_is (k := 1) (word := ⟨#[116, 104, 97]⟩) (most := 9) Q3.out.one (HT.out.below B3.out) (by decide) Rw.tab_valid (by rw [show (⟨#[116, 104, 97]⟩ : ByteArray).data.toList = [116, 104, 97] from rfl]; rw [Rw.let_tha]; simp) Rw.forms_tha)
 unfold tabV at C3
 go_wp2_with fail
 refine (C3.out).mono ?_
 rintro e W4 ⟨ya, yc, yb, yd, rfl, hy1, hy2, hb⟩
 have Hy := hid (And.intro hy1 hy2)
 have B4 := hid (Below.step B3.out hb)
 have T4 := hid (T3.out.below hb)
 have Q4 := hid (Q3.out.below hb)
 have Hx := hid (And.intro (Hx.out.1.below hb) (Hx.out.2.below hb))
 clear hb hy1 hy2 t0 t1 t2 t3 t4 t5 tl
 have t0 := T4.out.cell (j := 0) rfl
 have t1 := T4.out.cell (j := 1) rfl
 have t2 := T4.out.cell (j := 2) rfl
 have t3 := T4.out.cell (j := 3) rfl
 have t4 := T4.out.cell (j := 4) rfl
 have t5 := T4.out.cell (j := 5) rfl
 have tl := T4.out.lt
 have C4 := hid (forms_is (k := 1) (word := ⟨#[98, 97, 98]⟩) (most := 100) Q4.out.one (HT.out.below B4.out) (by decide) Rw.tab_valid (by rw [show (⟨#[98, 97, 98]⟩ : ByteArray).data.toList = [98, 97, 98] from rfl]; rw [Rw.let_bab]; simp) Rw.forms_bab)
 unfold tabV at C4
 go_wp2_with fail
 refine (C4.out).mono ?_
 rintro e W5 ⟨za, zc, zb, zd, rfl, hz1, hz2, hb⟩
 have Hz := hid (And.intro hz1 hz2)
 have B5 := hid (Below.step B4.out hb)
 have T5 := hid (T4.out.below hb)
 have Q5 := hid (Q4.out.below hb)
 have Hx := hid (And.intro (Hx.out.1.below hb) (Hx.out.2.below hb))
 have Hy := hid (And.intro (Hy.out.1.below hb) (Hy.out.2.below hb))
 clear hb hz1 hz2 t0 t1 t2 t3 t4 t5 tl
 have t0 := T5.out.cell (j := 0) rfl
 have t1 := T5.out.cell (j := 1) rfl
 have t2 := T5.out.cell (j := 2) rfl
 have t3 := T5.out.cell (j := 3) rfl
 have t4 := T5.out.cell (j := 4) rfl
 have t5 := T5.out.cell (j := 5) rfl
 have tl := T5.out.lt
 have C5 := hid (forms_no (k := 1) (word := ⟨#[65, 110, 110, 97]⟩) (most := 5) Q5.out.one (HT.out.below B5.out) (by decide) (.inl (show Fo.letters 1 [65, 110, 110, 97] = [] from Rw.let_Anna)))
 unfold tabV at C5
 go_wp2_with fail
 refine (C5.out).mono ?_
 rintro e W6 ⟨rfl, hb⟩
 have B6 := hid (Below.step B5.out hb)
 have T6 := hid (T5.out.below hb)
 have Q6 := hid (Q5.out.below hb)
 have Hx := hid (And.intro (Hx.out.1.below hb) (Hx.out.2.below hb))
 have Hy := hid (And.intro (Hy.out.1.below hb) (Hy.out.2.below hb))
 have Hz := hid (And.intro (Hz.out.1.below hb) (Hz.out.2.below hb))
 clear hb t0 t1 t2 t3 t4 t5 tl
 have t0 := T6.out.cell (j := 0) rfl
 have t1 := T6.out.cell (j := 1) rfl
 have t2 := T6.out.cell (j := 2) rfl
 have t3 := T6.out.cell (j := 3) rfl
 have t4 := T6.out.cell (j := 4) rfl
 have t5 := T6.out.cell (j := 5) rfl
 have tl := T6.out.lt
 have C6 := hid (variants_is Q6.out.one (HT.out.below B6.out) (by decide) Rw.var_anna)
 unfold tabV at C6
 rw [show bs Rw.anna = ⟨#[97, 110, 110, 97]⟩ from rfl] at C6
 go_wp2_with fail
 refine (C6.out).mono ?_
 rintro e W7 ⟨va, vc, rfl, hv1, hb⟩
 have HV := hid hv1
 have B7 := hid (Below.step B6.out hb)
 have T7 := hid (T6.out.below hb)
 have Q7 := hid (Q6.out.below hb)
 have Hx := hid (And.intro (Hx.out.1.below hb) (Hx.out.2.below hb))
 have Hy := hid (And.intro (Hy.out.1.below hb) (Hy.out.2.below hb))
 have Hz := hid (And.intro (Hz.out.1.below hb) (Hz.out.2.below hb))
 clear hb hv1 t0 t1 t2 t3 t4 t5 tl
 have t0 := T7.out.cell (j := 0) rfl
 have t1 := T7.out.cell (j := 1) rfl
 have t2 := T7.out.cell (j := 2) rfl
 have t3 := T7.out.cell (j := 3) rfl
 have t4 := T7.out.cell (j := 4) rfl
 have t5 := T7.out.cell (j := 5) rfl
 have tl := T7.out.lt
 have C7 := hid (dropping_any Rw.tab _ 1 [97, 108] _ Q7.out.one (HT.out.below B7.out) (by decide))
 unfold tabV at C7
 rw [Rw.drop_al, show bs [97, 108] = ⟨#[97, 108]⟩ from rfl] at C7
 go_wp2_with fail
 refine (C7.out).mono ?_
 rintro e W8 ⟨rfl, hb⟩
 have B8 := hid (Below.step B7.out hb)
 have T8 := hid (T7.out.below hb)
 have Q8 := hid (Q7.out.below hb)
 have Hx := hid (And.intro (Hx.out.1.below hb) (Hx.out.2.below hb))
 have Hy := hid (And.intro (Hy.out.1.below hb) (Hy.out.2.below hb))
 have Hz := hid (And.intro (Hz.out.1.below hb) (Hz.out.2.below hb))
 have HV := hid (HV.out.below hb)
 clear hb t0 t1 t2 t3 t4 t5 tl
 have t0 := T8.out.cell (j := 0) rfl
 have t1 := T8.out.cell (j := 1) rfl
 have t2 := T8.out.cell (j := 2) rfl
 have t3 := T8.out.cell (j := 3) rfl
 have t4 := T8.out.cell (j := 4) rfl
 have t5 := T8.out.cell (j := 5) rfl
 have tl := T8.out.lt
 have C8 := hid (dropping_any Rw.tab _ 1 Rw.anna _ Q8.out.one (HT.out.below B8.out) (by decide))
 unfold tabV at C8
 rw [Rw.drop_anna, show bs Rw.anna = ⟨#[97, 110, 110, 97]⟩ from rfl] at C8
 go_wp2_with fail
 refine (C8.out).mono ?_
 rintro e W9 ⟨rfl, hb⟩
 have B9 := hid (Below.step B8.out hb)
 have T9 := hid (T8.out.below hb)
 have Q9 := hid (Q8.out.below hb)
 have Hx := hid (And.intro (Hx.out.1.below hb) (Hx.out.2.below hb))
 have Hy := hid (And.intro (Hy.out.1.below hb) (Hy.out.2.below hb))
 have Hz := hid (And.intro (Hz.out.1.below hb) (Hz.out.2.below hb))
 have HV := hid (HV.out.below hb)
 clear hb t0 t1 t2 t3 t4 t5 tl
 have t0 := T9.out.cell (j := 0) rfl
 have t1 := T9.out.cell (j := 1) rfl
 have t2 := T9.out.cell (j := 2) rfl
 have t3 := T9.out.cell (j := 3) rfl
 have t4 := T9.out.cell (j := 4) rfl
 have t5 := T9.out.cell (j := 5) rfl
 have tl := T9.out.lt
 have C9 : Hid (∀ X, Below W9.heap.size W9 X → Calls Tryz.prog 30 #[.agg #[.slice (some ⟨g, 20, none⟩) 1 (c - 5), .slice none 0 0, .slice (some ⟨q, 0, none⟩) 1 1, .int .i64 4, .int .i64 2, .int .i64 1]] X (Gives (.tuple #[.string ⟨#[114, 117, 108, 101, 32, 112, 108, 97, 105, 110, 32, 34, 116, 104, 34, 32, 116, 111, 32, 34, 116, 34, 32, 99, 111, 115, 116, 32, 50, 59, 10, 101, 110, 100, 32, 112, 108, 97, 105, 110, 32, 34, 97, 34, 32, 51, 59, 10, 99, 111, 115, 116, 115, 32, 52, 32, 50, 32, 49, 59, 10]⟩, .int .i64 0]) X)) := fun X hX => by
  have h := text_any10 Rw.tab2 (tabV2 g c q) X (Q9.out.two.below hX) (HT.out.below (Below.step B9.out hX)) (H10.out.below (Below.step B9.out hX))
  rw [Rw.text_tab2, Rw.valid_tab2] at h
  exact h
 have s0 : ¬ c = 5 := by omega
 have s1 : (5 : Int) ≤ (c : Int) := by omega
 have s2 : 5 ≤ c := by omega
 have s3 : 6 ≤ c := by omega
 go_wp2_with fail
 go_upto_region 9 with (fail)
 refine wp_heldS (S := StillAt W9) (by kernel_rfl) ?_
 simp only [List.size_toArray, List.length_cons, List.length_nil, Nat.reduceAdd]
 intro hc
 have S0 : StillAt W9 (Array.replicate 12 false) W9.drew := (Below.refl _ _).drew
 refine wpAnyS_take (i := 0) (v := .pointer (some ⟨W1.heap.size, 0, none⟩)) rfl (by kernel_rfl) (by kernel_rfl) (by kernel_rfl) (fun _ _ _ h => h) (fun _ _ => Iff.rfl) hc (by first | rfl | simp [Region.wanted]) (fun wx hx => ?_) S0 (fun hc S0 => ?_)
 ·go_simp
 try simp only [tk1, tk3, Act.put, tk4, tk5, tk6]
 refine wpAnyS_take (i := 1) (v := .slice (some ⟨g, 0, none⟩) 6 c) rfl (by kernel_rfl) (by kernel_rfl) (by kernel_rfl) (fun _ _ _ h => h) (fun _ _ => Iff.rfl) hc (by first | rfl | simp [Region.wanted]) (fun wx hx => ?_) S0 (fun hc S0 => ?_)
 ·have y := (hx.still.cell (p := ⟨W1.heap.size, 0, none⟩) tl).trans t0
  go_simp
 try simp only [tk1, tk2, tk3, Act.put, tk4, tk5, tk6]
 refine wpAnyS_take (i := 2) (v := .slice (some ⟨g, 20, none⟩) 1 (c - 5)) rfl (by kernel_rfl) (by kernel_rfl) (by kernel_rfl) (fun _ _ _ h => h) (fun _ _ => Iff.rfl) hc (by first | rfl | simp [Region.wanted]) (fun wx hx => ?_) S0 (fun hc S0 => ?_)
 ·go_simp
 try simp only [tk1, tk2, tk3, Act.put, tk4, tk5, tk6]
 refine wpAnyS_take (i := 3) (v := .pointer (some ⟨W1.heap.size, 2, none⟩)) rfl (by kernel_rfl) (by kernel_rfl) (by kernel_rfl) (fun _ _ _ h => h) (fun _ _ => Iff.rfl) hc (by first | rfl | simp [Region.wanted]) (fun wx hx => ?_) S0 (fun hc S0 => ?_)
 ·go_simp
 try simp only [tk1, tk2, tk3, Act.put, tk4, tk5, tk6]
 refine wpAnyS_take (i := 4) (v := .slice (some ⟨q, 0, none⟩) 1 1) rfl (by kernel_rfl) (by kernel_rfl) (by kernel_rfl) (fun _ _ _ h => h) (fun _ _ => Iff.rfl) hc (by first | rfl | simp [Region.wanted]) (fun wx hx => ?_) S0 (fun hc S0 => ?_)
 ·have y := (hx.still.cell (p := ⟨W1.heap.size, 2, none⟩) tl).trans t2
  go_simp
 try simp only [tk1, tk2, tk3, Act.put, tk4, tk5, tk6]
 refine wpAnyS_take (i := 5) (v := .agg #[.slice (some ⟨g, 20, none⟩) 1 (c - 5), .slice none 0 0, .slice (some ⟨q, 0, none⟩) 1 1, .int .i64 4, .int .i64 2, .int .i64 1]) rfl (by kernel_rfl) (by kernel_rfl) (by kernel_rfl) (fun _ _ _ h => h) (fun _ _ => Iff.rfl) hc (by first | rfl | simp [Region.wanted]) (fun wx hx => ?_) S0 (fun hc S0 => ?_)
 ·go_simp
 try simp only [tk1, tk2, tk3, Act.put, tk4, tk5, tk6]
 refine wpAnyS_one (i := 6) rfl (by kernel_rfl) (by rfl) hc (fun K' hK => ?_)
 go_simp
 refine (C9.out _ (Below.refl _ _).drew).mono ?_
 rintro e W10 ⟨rfl, hb'⟩
 have hb : Below W9.heap.size W9 W10 := Below.step (Below.refl _ _).drew hb'
 refine hK.out _ _ hb (fun hc => ?_)
 clear hK K'
 have S0 : StillAt W9 #[] W10 := hb
 try simp only [tk1, tk2, tk3, Act.put, tk4, tk5, tk6]
 refine wpAnyS_take (i := 7) (v := .tuple #[.string ⟨#[114, 117, 108, 101, 32, 112, 108, 97, 105, 110, 32, 34, 116, 104, 34, 32, 116, 111, 32, 34, 116, 34, 32, 99, 111, 115, 116, 32, 50, 59, 10, 101, 110, 100, 32, 112, 108, 97, 105, 110, 32, 34, 97, 34, 32, 51, 59, 10, 99, 111, 115, 116, 115, 32, 52, 32, 50, 32, 49, 59, 10]⟩, .int .i64 0]) rfl (by kernel_rfl) (by kernel_rfl) (by kernel_rfl) (fun _ _ _ h => h) (fun _ _ => Iff.rfl) hc (by first | rfl | simp [Region.wanted]) (fun wx hx => ?_) S0 (fun hc S0 => ?_)
 ·go_simp
 try simp only [tk1, tk2, tk3, Act.put, tk4, tk5, tk6]
 refine wpAnyS_take (i := 8) (v := .string ⟨#[114, 117, 108, 101, 32, 112, 108, 97, 105, 110, 32, 34, 116, 104, 34, 32, 116, 111, 32, 34, 116, 34, 32, 99, 111, 115, 116, 32, 50, 59, 10, 101, 110, 100, 32, 112, 108, 97, 105, 110, 32, 34, 97, 34, 32, 51, 59, 10, 99, 111, 115, 116, 115, 32, 52, 32, 50, 32, 49, 59, 10]⟩) rfl (by kernel_rfl) (by kernel_rfl) (by kernel_rfl) (fun _ _ _ h => h) (fun _ _ => Iff.rfl) hc (by first | rfl | simp [Region.wanted]) (fun wx hx => ?_) S0 (fun hc S0 => ?_)
 ·go_simp
 try simp only [tk1, tk2, tk3, Act.put, tk4, tk5, tk6]
 refine wpAnyS_take (i := 9) (v := .int .i64 0) rfl (by kernel_rfl) (by kernel_rfl) (by kernel_rfl) (fun _ _ _ h => h) (fun _ _ => Iff.rfl) hc (by first | rfl | simp [Region.wanted]) (fun wx hx => ?_) S0 (fun hc S0 => ?_)
 ·go_simp
 try simp only [tk1, tk2, tk3, Act.put, tk4, tk5, tk6]
 refine wpAnyS_take (i := 10) (v := .string ⟨#[114, 117, 108, 101, 32, 112, 108, 97, 105, 110, 32, 34, 116, 104, 34, 32, 116, 111, 32, 34, 116, 34, 32, 99, 111, 115, 116, 32, 50, 59, 10, 101, 110, 100, 32, 112, 108, 97, 105, 110, 32, 34, 97, 34, 32, 51, 59, 10, 99, 111, 115, 116, 115, 32, 52, 32, 50, 32, 49, 59, 10]⟩) rfl (by kernel_rfl) (by kernel_rfl) (by kernel_rfl) (fun _ _ _ h => h) (fun _ _ => Iff.rfl) hc (by first | rfl | simp [Region.wanted]) (fun wx hx => ?_) S0 (fun hc S0 => ?_)
 ·go_simp
 try simp only [tk1, tk2, tk3, Act.put, tk4, tk5, tk6]
 refine wpAnyS_take (i := 11) (v := .int .i64 0) rfl (by kernel_rfl) (by kernel_rfl) (by kernel_rfl) (fun _ _ _ h => h) (fun _ _ => Iff.rfl) hc (by first | rfl | simp [Region.wanted]) (fun wx hx => ?_) S0 (fun hc S0 => ?_)
 ·go_simp
 try simp only [tk1, tk2, tk3, Act.put, tk4, tk5, tk6]
 refine wpAnyS_done (by kernel_rfl) ?_ _
 clear hc S0
 have B10 := hid (Below.step B9.out hb)
 have T10 := hid (T9.out.below hb)
 have Q10 := hid (Q9.out.below hb)
 have Hx := hid (And.intro (Hx.out.1.below hb) (Hx.out.2.below hb))
 have Hy := hid (And.intro (Hy.out.1.below hb) (Hy.out.2.below hb))
 have Hz := hid (And.intro (Hz.out.1.below hb) (Hz.out.2.below hb))
 have HV := hid (HV.out.below hb)
 clear hb hb' t0 t1 t2 t3 t4 t5 tl s0 s1 s2 s3 C9 c6
 have D1 := hid (sameForms_lit (cl := #[.string ⟨#[97, 110, 97]⟩, .string ⟨#[97, 110, 110, 97]⟩]) (cm := #[.int .i64 1, .int .i64 0]) (n := 2) (m := 2) Hx.out.1 Hx.out.2 rfl rfl rfl rfl rfl (by decide) (by decide))
 go_wp2_with fail
 refine (D1.out).mono ?_
 rintro e W11 ⟨rfl, hb⟩
 have B11 := hid (Below.step B10.out hb)
 have T11 := hid (T10.out.below hb)
 have Q11 := hid (Q10.out.below hb)
 have Hx := hid (And.intro (Hx.out.1.below hb) (Hx.out.2.below hb))
 have Hy := hid (And.intro (Hy.out.1.below hb) (Hy.out.2.below hb))
 have Hz := hid (And.intro (Hz.out.1.below hb) (Hz.out.2.below hb))
 have HV := hid (HV.out.below hb)
 clear hb
 have D2 := hid (sameForms_lit (cl := #[.string ⟨#[116, 97]⟩, .string ⟨#[116, 104, 97]⟩]) (cm := #[.int .i64 2, .int .i64 0]) (n := 2) (m := 2) Hy.out.1 Hy.out.2 rfl rfl rfl rfl rfl (by decide) (by decide))
 go_wp2_with fail
 refine (D2.out).mono ?_
 rintro e W12 ⟨rfl, hb⟩
 have B12 := hid (Below.step B11.out hb)
 have T12 := hid (T11.out.below hb)
 have Q12 := hid (Q11.out.below hb)
 have HV := hid (HV.out.below hb)
 clear hb
 have D3 := hid (sameVar_lit (cl := #[.string ⟨#[97, 110, 110, 97]⟩, .int .i64 (-1), .int .i64 0, .string ⟨#[97, 110, 110]⟩, .int .i64 0, .int .i64 3]) (n := 2) HV.out rfl rfl (by decide))
 go_wp2_with fail
 refine (D3.out).mono ?_
 rintro e W13 ⟨rfl, hb⟩
 have B13 := hid (Below.step B12.out hb)
 have T13 := hid (T12.out.below hb)
 have Q13 := hid (Q12.out.below hb)
 clear hb
 have t0 := T13.out.cell (j := 0) rfl
 have t1 := T13.out.cell (j := 1) rfl
 have t2 := T13.out.cell (j := 2) rfl
 have t3 := T13.out.cell (j := 3) rfl
 have t4 := T13.out.cell (j := 4) rfl
 have t5 := T13.out.cell (j := 5) rfl
 have tl := T13.out.lt
 have D4 := hid (valid_any Rw.tab _ W13 Q13.out.one (HT.out.below B13.out))
 unfold tabV at D4
 rw [Rw.tab_valid] at D4
 go_wp2_with fail
 refine (D4.out).mono ?_
 rintro e W14 ⟨rfl, hb⟩
 have B14 := hid (Below.step B13.out hb)
 have T14 := hid (T13.out.below hb)
 have Q14 := hid (Q13.out.below hb)
 clear hb t0 t1 t2 t3 t4 t5 tl
 have D5 := hid (valid_any ⟨[], [], [], 0, 0, 0⟩ (.agg #[.slice none 0 0, .slice none 0 0, .slice none 0 0, .int .i64 0, .int .i64 0, .int .i64 0]) W14 ⟨⟨_, _, _, rfl, SlOf.nil _ _ _, SlOf.nil _ _ _, SlOf.nil _ _ _⟩, by simp, by simp, by simp, by decide⟩ (HT.out.below B14.out))
 rw [Rw.valid_none] at D5
 go_wp2_with fail
 refine (D5.out).mono ?_
 rintro e W15 ⟨rfl, hb⟩
 have B15 := hid (Below.step B14.out hb)
 have T15 := hid (T14.out.below hb)
 have Q15 := hid (Q14.out.below hb)
 clear hb
 go_wp2_with fail
 go_ret
 exact ⟨rfl, B15.out⟩

end Go.Proofs.YtdchjacccmajcaaGreatDoor
