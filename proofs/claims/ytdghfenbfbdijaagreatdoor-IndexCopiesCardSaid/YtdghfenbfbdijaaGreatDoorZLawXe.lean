/-
 IndexCopies: what was put and what Entries returned may change; the index does not. Conditions: sizes of the arguments; the library's tables.
-/
import Derived.Test.YtdghfenbfbdijaaGreatDoorZIy7
import Derived.Test.YtdghfenbfbdijaaGreatDoorZIyC
namespace Idx
open Li
theorem put_nil (x : En) : (put [] x).2 = 0 ∧ (put [] x).1 = [x] ∧ Li.proper x = true ∨ (put [] x).2 ≠ 0 ∧ (put [] x).1 = [] := by
 unfold put
 cases h : Li.proper x with
 | false => exact .inr ⟨by simp, by simp⟩
 | true => exact .inl ⟨by simp [has], by simp [has], rfl⟩
end Idx
namespace Go.Proofs.YtdghfenbfbdijaaGreatDoor
open Go.RowKit Go.Lib Go.Maps

/-- one block that is not the index's has changed -/
theorem IxAt.kept {W W' : World} {px eb cb l : Nat} {t : Rw.Table} {tc : List Value} {b : Int} {Q : Nat → Prop} {P : List (Li.En × Value)} {nc : Nat} (h : IxAt W px eb cb t tc b Q P nc) (hg : W.grownBy W' (some l)) (h0 : px ≠ l) (h1 : eb ≠ l) (h2 : cb ≠ l) (hq : ∀ k, Q k → k ≠ l) : IxAt W' px eb cb t tc b Q P nc := by
 obtain ⟨F, f1, f2⟩ := h.costs
 exact ⟨h.box.kept hg (fun e => h0 (Option.some.inj e.symm)), h.ents.kept hg (fun e => h1 (Option.some.inj e)), fun p hp => (h.names p hp).tch (O := fun k => k = l) (Tch.of_grown hg (fun r e => (Option.some.inj e).symm)) hq, ⟨F, f1.kept hg (fun e => h2 (Option.some.inj e)), f2⟩, h.ne, h.ok⟩

theorem sort_one {P : List (Li.En × Value)} {e : Li.En} (h : P.map Prod.fst = [e]) : (Idx.sortE P).map Prod.fst = [e] := by
 have hl := congrArg List.length h
 rw [List.length_map] at hl
 obtain ⟨p, hp⟩ := List.length_eq_one_iff.1 ((Idx.sortE_len (P := P)).trans hl)
 have h1 : p ∈ P := Idx.sortE_mem.1 (by rw [hp]; exact List.mem_cons_self)
 have h2 := List.mem_map_of_mem (f := Prod.fst) h1
 rw [h, List.mem_singleton] at h2
 rw [hp, List.map_singleton, h2]
/-- rows of two types share no block -/
theorem owns_apart {W : World} {B B2 : Nat} {e e2 : TypeId} {z z2 n n2 : Nat} {v u : Value} {xs ys : List Value} (h : W.ownsRow B e z v n xs) (g : W.ownsRow B2 e2 z2 u n2 ys) (hne : e ≠ e2) {b : Nat} (hv : v.ownBlock = some b) (hu : u.ownBlock = some b) : False := by
 rcases h.2 with ⟨rfl, -⟩ | ⟨q, cap, cur, rfl, hq, hh, -⟩
 ·cases hv
 rcases g.2 with ⟨rfl, -⟩ | ⟨q2, cap2, cur2, rfl, hq2, hh2, -⟩
 ·cases hu
 cases hv
 cases hu
 rw [hh] at hh2
 cases hh2
 exact hne rfl
/-- the first element of a row of one's own -/
theorem own_first {α : Type} {cells : α → List Value} {sz : Nat} {w : World} {B : Nat} {e : TypeId} {v : Value} {x : α} {l : List α} (h : w.ownsRow B e sz v (x :: l).length ((x :: l).flatMap cells)) :
  ∃ g c, v = .slice (some ⟨g, 0, none⟩) (x :: l).length c ∧ B ≤ g ∧ g < w.heap.size ∧ (∀ j u, (cells x)[j]? = some u → w.cell? ⟨g, j, none⟩ = some u) ∧ ∀ j, w.frozen? ⟨g, j, none⟩ = false := by
 rcases h.2 with ⟨_, h0⟩ | ⟨g, c, cur, rfl, hb, hg, h1, h2, h3, h4⟩
 ·simp at h0
 have hk : Blk w g e cur.toList := by simpa [Blk] using hg
 refine ⟨g, c, rfl, hb, hk.lt, fun j u hu => hk.cell (j := j) ?_, fun j => hk.frozen j⟩
 have e1 : (cur.toList.take ((x :: l).length * sz))[j]? = some u := by
  rw [h4, List.flatMap_cons, List.getElem?_append_left (List.getElem?_eq_some_iff.1 hu).1]
  exact hu
 rw [List.getElem?_take] at e1
 split at e1
 ·exact e1
 ·cases e1

set_option maxRecDepth 100000 in
set_option maxHeartbeats 8000000 in
theorem copies_law (t : Rw.Table) (tv : Value) (bd : Int) (fid : List UInt8) (fns : List Li.Nm) (fv : Value) (W : World) (ht : TableRaw W t tv) (hf : NmSl W fv fns) (hz : ∀ m ∈ fns, m.words.length ≤ 8796093022208) (hT : Tabs W) :
  Calls Tryz.prog 7 #[tv, .int .i64 bd, .agg #[.string (bs fid), fv]] W (Gives (.bool true) W) := by
 have HT := hid ht
 have HTT := hid hT
 have HF := hid hf
 have HZ := hid hz
 obtain ⟨⟨vr, vd, ve, rfl, ⟨ar, cr, rfl, -⟩, ⟨ad, cd, rfl, -⟩, ⟨ae, ce, rfl, -⟩⟩, -, -, -⟩ := ht
 obtain ⟨fl, hfl, ⟨fa, fc, rfl, -⟩, -⟩ := hf
 have hfe : fl.length = fns.length := by rw [← hfl, List.length_map]
 rw [hfe] at HF ⊢
 clear hT hfl hfe hz
 obtain ⟨Wa, hWa⟩ : ∃ X, X = W.alloc (.cells #[.slice ar t.rules.length cr, .slice ad t.drops.length cd, .slice ae t.ends.length ce, .int .i64 t.drop, .int .i64 t.order, .int .i64 t.initial] 25) := ⟨_, rfl⟩
 obtain ⟨W1, hW1⟩ : ∃ X, X = Wa.alloc (.cells #[.string (bs fid), .slice fa fns.length fc] 40) := ⟨_, rfl⟩
 have sa : Wa.heap.size = W.heap.size + 1 := by rw [hWa, World.size_alloc]
 have ba : Below W.heap.size W Wa := by rw [hWa]; exact (Below.refl _ _).alloc (Nat.le_refl _) _
 have bb : Below Wa.heap.size Wa W1 := by rw [hW1]; exact (Below.refl _ _).alloc (Nat.le_refl _) _
 have T1 := hid (show Blk W1 W.heap.size 25 [.slice ar t.rules.length cr, .slice ad t.drops.length cd, .slice ae t.ends.length ce, .int .i64 t.drop, .int .i64 t.order, .int .i64 t.initial] by
  have : Blk Wa W.heap.size 25 [.slice ar t.rules.length cr, .slice ad t.drops.length cd, .slice ae t.ends.length ce, .int .i64 t.drop, .int .i64 t.order, .int .i64 t.initial] := by rw [hWa]; exact Blk.new W _ _
  exact this.below bb)
 have F1 := hid (show Blk W1 (W.heap.size + 1) 40 [.string (bs fid), .slice fa fns.length fc] by rw [hW1, ← sa]; exact Blk.new Wa _ _)
 have B1 := hid (Below.step ba bb)
 rw [hWa] at hW1
 have HH := hid (head_true W1 (HTT.out.below B1.out))
 clear ba bb sa hWa
 go_enter Tryz.func7, Tryz.ntmps7
 go_upto_region 1 with (fail)
 try simp only [Nat.add_assoc, Nat.reduceAdd]
 rw [← hW1]
 clear hW1
 go_wp2_with fail
 refine (HH.out).mono ?_
 rintro e W2 ⟨rfl, hb2⟩
 have B2 := hid (Below.step B1.out hb2)
 have T2 := hid (T1.out.below hb2)
 have F2 := hid (F1.out.below hb2)
 clear hb2 HH
 obtain ⟨X1, hX1⟩ : ∃ X, X = W2.alloc (.cells #[.string (bs fid), .slice fa fns.length fc] 40) := ⟨_, rfl⟩
 have b1 : Below W2.heap.size W2 X1 := by rw [hX1]; exact (Below.refl _ _).alloc (Nat.le_refl _) _
 have B3 := hid (Below.step B2.out b1)
 have T3 := hid (T2.out.below b1)
 have F3 := hid (F2.out.below b1)
 have k1 : Blk X1 W2.heap.size 40 [.string (bs fid), .slice fa fns.length fc] := by rw [hX1]; exact Blk.new _ _ _
 have HS := hid (small_any t _ [(⟨fid, fns⟩, .slice fa fns.length fc)] (.slice (some ⟨W2.heap.size, 0, none⟩) 1 1) none 0 0 [] (.slice none 0 0) X1 (HT.out.below B3.out)
  ⟨SlOf.block k1 rfl (fun _ _ => rfl) rfl (by decide), fun p hp => by rw [List.mem_singleton.1 hp]; exact HF.out.below B3.out⟩
  ⟨[], rfl, SlOf.nil _ _ _, fun p hp => by cases hp⟩ (by decide))
 have t0 := T2.out.cell (j := 0) rfl
 have t1 := T2.out.cell (j := 1) rfl
 have t2 := T2.out.cell (j := 2) rfl
 have t3 := T2.out.cell (j := 3) rfl
 have t4 := T2.out.cell (j := 4) rfl
 have t5 := T2.out.cell (j := 5) rfl
 have tl := T2.out.lt
 have f0 := F2.out.cell (j := 0) rfl
 have f1 := F2.out.cell (j := 1) rfl
 have fl' := F2.out.lt
 clear b1 k1
 go_wp2_with fail
 rw [← hX1]
 clear hX1 t0 t1 t2 t3 t4 t5 tl f0 f1 fl'
 refine (HS.out).mono ?_
 rintro e W3 ⟨rfl, hb3⟩
 have B4 := hid (Below.step B3.out hb3)
 have T4 := hid (T3.out.below hb3)
 have F4 := hid (F3.out.below hb3)
 clear hb3 HS
 cases hs : smallZ t (List.map Prod.fst [((⟨fid, fns⟩ : Li.En), (Value.slice fa fns.length fc))]) 0 [] with
 | false =>
  clear hs
  go_wp2_with fail
  go_ret
  exact ⟨rfl, B4.out⟩
 | true =>
 have hfew : Rw.fewB t = true ∧ Idx.fewZ [(⟨fid, fns⟩ : Li.En)] 24 = true := by
  unfold smallZ at hs
  simp only [Bool.and_eq_true] at hs
  exact ⟨hs.1.1.1.1, hs.1.1.1.2⟩
 have TA := hid (HT.out.few10 hfew.1)
 have HSM := hid (Idx.few_small hfew.2 (fun e he n hn => by rw [List.mem_singleton.1 he] at hn; exact HZ.out n hn))
 clear hs hfew
 have HFL := hid (filled_any t _ _ _ bd (fun _ => True) [] (.slice none 0 0) W3 (TA.out.below B4.out) (HTT.out.below B4.out) ⟨SlOf.nil _ _ _, fun p hp => by cases hp⟩ ⟨by simp, fun e he => by cases he⟩ (fun _ _ => trivial))
 have t0 := T4.out.cell (j := 0) rfl
 have t1 := T4.out.cell (j := 1) rfl
 have t2 := T4.out.cell (j := 2) rfl
 have t3 := T4.out.cell (j := 3) rfl
 have t4 := T4.out.cell (j := 4) rfl
 have t5 := T4.out.cell (j := 5) rfl
 have tl := T4.out.lt
 go_wp2_with fail
 refine (HFL.out).mono ?_
 rintro e W4 ⟨hb4, hor⟩
 have B5 := hid (Below.step B4.out hb4)
 have F5 := hid (F4.out.below hb4)
 clear t0 t1 t2 t3 t4 t5 tl hb4 HFL
 rcases hor with ⟨-, rfl⟩ | ⟨-, px, eb, cb, P, rfl, he, hc, hP, hix⟩
 ·go_wp2_with fail
  go_ret
  exact ⟨rfl, B5.out⟩
 obtain rfl : P = [] := List.map_eq_nil_iff.1 hP
 have HI5 := hid hix
 have HEC := hid (And.intro he hc)
 clear he hc hP hix
 have hsm := HSM.out.2 _ List.mem_cons_self
 have HCP := hid (copy_any fid fns (.slice fa fns.length fc) W4 (HF.out.below B5.out) (by have := hsm.1; dsimp only at this; omega) (fun n hn => by have := (hsm.2.2 n hn).1; omega))
 have f0 := F5.out.cell (j := 0) rfl
 have f1 := F5.out.cell (j := 1) rfl
 have fl' := F5.out.lt
 clear hsm
 go_wp2_with fail
 refine (HCP.out).mono ?_
 rintro e W5 ⟨mv, qs, rfl, hqs, hcp, hb5⟩
 obtain ⟨ma, mc, rfl⟩ := hcp.slice
 have HQS := hid hqs
 obtain ⟨W6, hW6⟩ : ∃ X, X = W5.alloc (.cells #[.string (bs fid), .slice ma qs.length mc] 40) := ⟨_, rfl⟩
 have b6 : Below W5.heap.size W5 W6 := by rw [hW6]; exact (Below.refl _ _).alloc (Nat.le_refl _) _
 have M6 := hid (show Blk W6 W5.heap.size 40 [.string (bs fid), .slice ma qs.length mc] by rw [hW6]; exact Blk.new _ _ _)
 have B6 := hid (Below.step (Below.step B5.out hb5) b6)
 have F6 := hid ((F5.out.below hb5).below b6)
 have C6 := hid (hcp.below b6)
 have HI6 := hid ((HI5.out.below hb5).below b6)
 have Z46 := hid (And.intro hb5.size b6.size)
 have HSZ := hid (show px < W4.heap.size ∧ eb < W4.heap.size ∧ cb < W4.heap.size by
  obtain ⟨o, e1, -⟩ := HI5.out.map
  exact ⟨HI5.out.ix.box.lt, HI5.out.ix.ents.lt, (Array.getElem?_eq_some_iff.1 e1).1⟩)
 have HLC := hid (show (∀ b, (Value.slice ma qs.length mc).ownBlock = some b → b < W5.heap.size) ∧ ∀ q ∈ qs, ∀ b, q.2.ownBlock = some b → b < W5.heap.size from ⟨fun b h => (hcp.own.lt b h).2, fun q hq b h => ((hcp.ws q hq).lt b h).2⟩)
 clear f0 f1 fl' hqs hcp hb5 b6 HCP
 have HPU := hid (put_any px eb cb t _ _ _ bd (fun k => W6.heap.size ≤ k) [] 0 fid fns (.slice ma qs.length mc) W6 ⟨HI6.out.ix.box, HI6.out.ix.ents, fun p hp => (by cases hp), HI6.out.ix.costs, HI6.out.ix.ne, HI6.out.ix.ok⟩ (fun _ h => h) (by rw [← HQS.out]; exact C6.out.sl) (by have := (HSM.out.2 _ List.mem_cons_self).2.1; dsimp only at this; omega) (by have := (HSM.out.2 _ List.mem_cons_self).1; dsimp only at this; omega) (fun n hn => by have := ((HSM.out.2 _ List.mem_cons_self).2.2 n hn).1; omega) (fun n hn w hw => by have := ((HSM.out.2 _ List.mem_cons_self).2.2 n hn).2 w hw; omega) HI6.out.tabs)
 have m0 := M6.out.cell (j := 0) rfl
 have m1 := M6.out.cell (j := 1) rfl
 have ml := M6.out.lt
 go_upto_region 8 with (fail)
 rw [← hW6]
 clear hW6
 go_wp2_with fail
 refine (HPU.out).mono ?_
 rintro e W7 ⟨hb7, rfl, P, hP, hix⟩
 clear m0 m1 ml HPU
 obtain ⟨oe, e1, e2⟩ := HI6.out.ix.ents.no_cells
 have HI7 := hid (show IxT W7 px eb cb t _ _ _ bd (fun k => W6.heap.size ≤ k) P 0 from ⟨hix, tableAt_but HI6.out.tb hb7 e1 e2, tabs_but HI6.out.tabs hb7 e1 e2⟩)
 have B7 := hid (B6.out.trans (hb7.below B6.out.size (by have := HEC.out.1; have := B4.out.size; omega)))
 have F7 := hid (blk_but F6.out hb7 e1 e2)
 have M7 := hid (blk_but M6.out hb7 e1 e2)
 have C7 := hid (C6.out.but hb7 e1 e2)
 have Z7 := hid hb7.size
 clear hb7 hix e1 e2
 rw [List.map_nil] at hP ⊢
 rcases Idx.put_nil ⟨fid, fns⟩ with ⟨h0, hp, hpr⟩ | ⟨h0, hp⟩
 case inr =>
  rw [hp] at hP
  obtain rfl : P = [] := List.map_eq_nil_iff.1 hP
  have HEN := hid (entries_raw px eb cb t _ _ _ bd _ [] 0 W7 HI7.out)
  generalize (Idx.put [] ⟨fid, fns⟩).2 = er at h0 ⊢
  have h1 : decide (er = 0) = false := decide_eq_false h0
  clear hp hP
  go_wp2_with fail
  refine (HEN.out).mono ?_
  rintro e W8 ⟨hb8, a, c, ps, rfl, hps, -⟩
  obtain rfl : ps = [] := by
   have h := congrArg List.length hps
   rw [List.length_map, List.length_map, Idx.sortE_len] at h
   exact List.eq_nil_of_length_eq_zero h
  have B8 := hid (Below.step B7.out hb8)
  clear hps hb8 HEN
  go_wp2_with fail
  go_ret
  exact ⟨rfl, B8.out⟩
 rw [h0]
 rw [hp] at hP
 have HP := hid hP
 have HPR := hid hpr
 clear h0 hp hP hpr
 obtain ⟨q, qr, rfl⟩ : ∃ q qr, qs = q :: qr := by
  cases qs with
  | nil =>
   have h1 := HPR.out
   rw [← HQS.out] at h1
   simp [Li.proper] at h1
  | cons q qr => exact ⟨q, qr, rfl⟩
 have hq1 : 0 < q.1.words.length := by
  have h1 := (Li.proper_few HPR.out).2 q.1 (by rw [← HQS.out]; exact List.mem_cons_self)
  exact (Li.nm_few h1).1
 obtain ⟨g, mc', hm', hgB, hgz, hgc, hgf⟩ := own_first C7.out.own
 obtain ⟨rfl, rfl⟩ : ma = some ⟨g, 0, none⟩ ∧ mc = mc' := by
  simp only [Value.slice.injEq] at hm'
  exact ⟨hm'.1, hm'.2.2⟩
 have hws := C7.out.ws q List.mem_cons_self
 obtain ⟨wd, wr, hwd⟩ : ∃ wd wr, q.1.words = wd :: wr := by
  cases h : q.1.words with
  | nil => rw [h] at hq1; simp at hq1
  | cons wd wr => exact ⟨wd, wr, rfl⟩
 rw [hwd] at hws
 obtain ⟨g1, wc, hqv, hkB, hkz, hkc, hkf⟩ := own_first hws
 have HW := hid (And.intro hwd hqv)
 have n1 := hgc 1 _ rfl
 rw [hqv] at n1
 have s0 := hkc 0 _ rfl
 have sf := hkf 0
 have m1 := M7.out.cell (j := 1) rfl
 have ml := M7.out.lt
 have HG := hid (show W4.heap.size ≤ g ∧ g < W5.heap.size ∧ W4.heap.size ≤ g1 ∧ g1 < W5.heap.size ∧ W5.heap.size < W6.heap.size from ⟨hgB, HLC.out.1 g rfl, hkB, HLC.out.2 q List.mem_cons_self g1 (by rw [hqv]; rfl), M6.out.lt⟩)
 have HGC := hid (And.intro (hgc 0 _ rfl) (And.intro (hgc 1 _ rfl) (And.intro (hgf 0) (And.intro (hgf 1) hgz))))
 have hgg : g ≠ g1 := fun e => by
  exact owns_apart C7.out.own (C7.out.ws q List.mem_cons_self) (by decide) (b := g) rfl (by rw [hqv, e]; rfl)
 have hlen : (0 : Int) < ((q :: qr).length : Int) := by simp
 have hlen1 : (0 : Int) < ((wd :: wr).length : Int) := by simp
 clear hm' hws hwd hqv hgB hkB hgc hkc hgf hkf hq1
 obtain ⟨W8, hW8⟩ : ∃ X, X = W7.setCell ⟨g1, 0, none⟩ (.string ⟨#[99, 104, 97, 110, 103, 101, 100]⟩) := ⟨_, rfl⟩
 have hg8 := set_grown_at W7 g1 0 (.string ⟨#[99, 104, 97, 110, 103, 101, 100]⟩)
 rw [← hW8] at hg8
 go_upto_region 11 with (fail)
 rw [← hW8]
 have B8 := hid (show Below W.heap.size W W8 by rw [hW8]; exact B7.out.setCell (p := ⟨g1, 0, none⟩) (by have := HG.out; have := B5.out.size; show W.heap.size ≤ g1; omega) _)
 clear hW8 n1 s0 sf m1 ml
 have HI8 := hid (show IxT W8 px eb cb t _ _ _ bd (fun k => W6.heap.size ≤ k) P 0 from ⟨HI7.out.ix.kept hg8 (by have := HG.out; have := HSZ.out; omega) (by have := HG.out; have := HSZ.out; omega) (by have := HG.out; have := HSZ.out; omega) (fun k hk => by have := HG.out; omega), TA.out.below B8.out, HTT.out.below B8.out⟩)
 have M8 := hid (M7.out.kept hg8 (fun e => by have := HG.out; have := Option.some.inj e; omega))
 have HGC8 := hid (show W8.cell? ⟨g, 0, none⟩ = some (.int .i64 q.1.script) ∧ W8.cell? ⟨g, 1, none⟩ = some q.2 ∧ W8.frozen? ⟨g, 0, none⟩ = false ∧ W8.frozen? ⟨g, 1, none⟩ = false ∧ g < W8.heap.size by
  have hb := hg8.block g HGC.out.2.2.2.2 (fun e => hgg (Option.some.inj e))
  exact ⟨(World.cell?_of_block (a := ⟨g, 0, none⟩) hb).trans HGC.out.1, (World.cell?_of_block (a := ⟨g, 1, none⟩) hb).trans HGC.out.2.1, (World.frozen?_of_block (a := ⟨g, 0, none⟩) hb).trans HGC.out.2.2.1, (World.frozen?_of_block (a := ⟨g, 1, none⟩) hb).trans HGC.out.2.2.2.1, Nat.lt_of_lt_of_le HGC.out.2.2.2.2 hg8.size⟩)
 have F8 := hid (F7.out.kept hg8 (fun e => by have := HG.out; have := Option.some.inj e; have := B5.out.size; have := F5.out.lt; omega))
 clear hg8 HGC
 have m1 := M8.out.cell (j := 1) rfl
 have ml := M8.out.lt
 have hne : ¬ W5.heap.size = g := by have := HG.out; omega
 have HNE := hid hgg
 clear hgg
 refine wp_heldS (S := HeldC 5 (fun _ => True) (fun b => b = g) W8) (by kernel_rfl) ?_
 simp only [List.size_toArray, List.length_cons, List.length_nil, Nat.reduceAdd]
 intro hc
 have S0 : HeldC 5 (fun _ => True) (fun b => b = g) W8 (Array.replicate 6 false) W8.drew := ⟨.inr trivial, (Tch.refl _ W8).step (Below.refl _ _).drew⟩
 refine wpAnyS_take (i := 0) (v := .pointer (some ⟨W5.heap.size, 1, none⟩)) rfl (by kernel_rfl) (by kernel_rfl) (by kernel_rfl) (fun _ _ _ h => h) (fun _ _ => HeldC.set_ (by decide) _ _) hc (by first | rfl | simp [Region.wanted]) (fun wx hx => ?_) S0 (fun hc S0 => ?_)
 ·go_simp
 try simp only [tk1, tk3, Act.put, tk4, tk5, tk6]
 refine wpAnyS_take (i := 1) (v := .slice (some ⟨g, 0, none⟩) (qr.length + 1) mc) rfl (by kernel_rfl) (by kernel_rfl) (by kernel_rfl) (fun _ _ _ h => h) (fun _ _ => HeldC.set_ (by decide) _ _) hc (by first | rfl | simp [Region.wanted]) (fun wx hx => ?_) S0 (fun hc S0 => ?_)
 ·have y := (World.cell?_of_block (a := ⟨W5.heap.size, 1, none⟩) (hx.tee.block _ ml hne)).trans m1
  go_simp
 try simp only [tk1, tk2, tk3, Act.put, tk4, tk5, tk6]
 obtain ⟨B, hB⟩ : ∃ B, B = W8.drew := ⟨_, rfl⟩
 have hbB : Below W8.heap.size W8 B := by rw [hB]; exact (Below.refl _ W8).drew
 rw [← hB]
 clear S0 hB
 refine wpAnyS_one (i := 2) rfl (by kernel_rfl) (by rfl) hc (fun K' hK => ?_)
 go_simp
 obtain ⟨C1, hC1⟩ : ∃ X, X = B.alloc (.cells #[.string ⟨#[111, 116, 104, 101, 114]⟩] 9) := ⟨_, rfl⟩
 rw [← hC1]
 have hb1 : Below W8.heap.size W8 C1 := by rw [hC1]; exact Below.step hbB ((Below.refl _ B).alloc (Nat.le_refl _) _)
 clear hC1
 refine hK.out _ _ ⟨.inr trivial, Tch.of_below hb1 _⟩ (fun hc => ?_)
 clear hK K'
 try simp only [tk1, tk2, tk3, Act.put, tk4, tk5, tk6]
 have HPL := hid (plain16_any (some ⟨B.heap.size, 0, none⟩) 1 1 C1)
 refine wpAnyS_one (i := 3) rfl (by kernel_rfl) (by rfl) hc (fun K' hK => ?_)
 go_simp
 refine (HPL.out).mono ?_
 rintro e Y ⟨rfl, hbY⟩
 have hb2 := Below.step hb1 hbY
 clear hb1 hbY HPL
 refine hK.out _ _ ⟨.inr trivial, Tch.of_below hb2 _⟩ (fun hc => ?_)
 clear hK K'
 try simp only [tk1, tk2, tk3, Act.put, tk4, tk5, tk6]
 refine wpAnyS_one (i := 4) rfl (by kernel_rfl) (by rfl) hc (fun K' hK => ?_)
 go_simp
 refine hK.out _ _ ⟨.inr trivial, Tch.of_below hb2 _⟩ (fun hc => ?_)
 clear hK K'
 try simp only [tk1, tk2, tk3, Act.put, tk4, tk5, tk6]
 obtain ⟨p0, p1, pf0, pf1, pz⟩ := HGC8.out
 have p0 := (hb2.cell (p := ⟨g, 0, none⟩) pz).trans p0
 have p1 := (hb2.cell (p := ⟨g, 1, none⟩) pz).trans p1
 have pf0 := (World.frozen?_of_block (a := ⟨g, 0, none⟩) (hb2.block g pz)).trans pf0
 have pf1 := (World.frozen?_of_block (a := ⟨g, 1, none⟩) (hb2.block g pz)).trans pf1
 have pz := Nat.lt_of_lt_of_le pz hb2.size
 refine wpAnyS_one (i := 5) rfl (by kernel_rfl) (by rfl) hc (fun K' hK => ?_)
 go_simp
 refine hK.out _ _ ⟨.inl rfl, ((Tch.of_below hb2 (fun b => b = g)).setCell (a := ⟨g, 0, none⟩) (.inl rfl) _).setCell (a := ⟨g, 1, none⟩) (.inl rfl) _⟩ (fun hc => ?_)
 clear hK K'
 try simp only [tk1, tk2, tk3, Act.put, tk4, tk5, tk6]
 refine wpAnyS_done (by kernel_rfl) ?_ _
 obtain ⟨Z, hZ⟩ : ∃ X, X = Y.setCell ⟨g, 0, none⟩ (.int .i64 1) := ⟨_, rfl⟩
 obtain ⟨W9, hW9⟩ : ∃ X, X = Z.setCell ⟨g, 1, none⟩ (.slice (some ⟨B.heap.size, 0, none⟩) 1 1) := ⟨_, rfl⟩
 have hgZ := set_grown_at Y g 0 (.int .i64 1)
 have hg9 := set_grown_at Z g 1 (.slice (some ⟨B.heap.size, 0, none⟩) 1 1)
 rw [← hZ] at hgZ
 rw [← hW9] at hg9
 have hgW : W.heap.size ≤ g := by have := HG.out; have := B5.out.size; omega
 have B9 := hid (show Below W.heap.size W W9 by rw [hW9, hZ]; exact ((Below.step B8.out hb2).setCell (p := ⟨g, 0, none⟩) hgW _).setCell (p := ⟨g, 1, none⟩) hgW _)
 have hS9 : W8.heap.size ≤ W9.heap.size := Nat.le_trans hb2.size (Nat.le_trans hgZ.size hg9.size)
 rw [← hZ, ← hW9]
 have HI9 := hid (show IxT W9 px eb cb t _ _ _ bd (fun k => W6.heap.size ≤ k) P 0 by
  have e0 := HG.out
  have e1 := HSZ.out
  refine ⟨((HI8.out.ix.below hb2).kept hgZ ?_ ?_ ?_ ?_).kept hg9 ?_ ?_ ?_ ?_, TA.out.below B9.out, HTT.out.below B9.out⟩
  all_goals first | omega | (intro k hk; omega))
 have F9 := hid (((F8.out.below hb2).kept hgZ (fun e => by have := HG.out; have := Option.some.inj e; have := B5.out.size; have := F5.out.lt; omega)).kept hg9 (fun e => by have := HG.out; have := Option.some.inj e; have := B5.out.size; have := F5.out.lt; omega))
 have Z9 := hid hS9
 clear hc hb2 p0 p1 pf0 pf1 pz hgZ hg9 hZ hW9 hgW hS9 m1 ml hne hbB HGC8
 have HEN := hid (entries_own px eb cb t _ _ _ bd _ P 0 W9 HI9.out)
 go_wp2_with fail
 refine (HEN.out).mono ?_
 rintro e V1 ⟨hb10, lv, ps, rfl, hps, hown, heo⟩
 obtain ⟨p, rfl, hpe⟩ : ∃ p, ps = [p] ∧ p.1 = ⟨fid, fns⟩ := by
  have hP1 : P.length = 1 := by
   have := congrArg List.length HP.out
   rwa [List.length_map] at this
  have hl := congrArg List.length hps
  rw [List.length_map, List.length_map, Idx.sortE_len, hP1] at hl
  obtain ⟨p, rfl⟩ := List.length_eq_one_iff.1 hl
  refine ⟨p, rfl, ?_⟩
  have h1 : p.1 ∈ (Idx.sortE P).map Prod.fst := by rw [← hps]; exact List.mem_cons_self
  obtain ⟨x, hx, hxe⟩ := List.mem_map.1 h1
  have h2 := List.mem_map_of_mem (f := Prod.fst) (Idx.sortE_mem.1 hx)
  rw [HP.out, List.mem_singleton] at h2
  rw [← hxe, h2]
 clear hps HEN
 obtain ⟨pe, pv⟩ := p
 dsimp only at hpe
 subst hpe
 obtain ⟨q2, hq2, hc2⟩ := heo _ List.mem_cons_self
 dsimp only at hq2 hc2
 obtain ⟨pa, pc, rfl⟩ := hc2.slice
 have hql : q2.length = fns.length := by rw [← hq2, List.length_map]
 obtain ⟨g2, lc, rfl, hlB, hlz, hlc, hlf⟩ := own_first hown
 have B10 := hid (Below.step B9.out hb10)
 have F10 := hid (F9.out.below hb10)
 have HI10 := hid ((show IxT W9 px eb cb t _ _ _ bd (fun k => k < W9.heap.size) P 0 from ⟨⟨HI9.out.ix.box, HI9.out.ix.ents, fun p hp => (HI9.out.ix.names p hp).mono (fun _ _ h => h), HI9.out.ix.costs, HI9.out.ix.ne, HI9.out.ix.ok⟩, HI9.out.tb, HI9.out.tabs⟩).below hb10)
 have HSZ9 := hid (show px < W9.heap.size ∧ eb < W9.heap.size ∧ cb < W9.heap.size ∧ W.heap.size + 1 < W9.heap.size by
  obtain ⟨o, e1, -⟩ := HI9.out.map
  exact ⟨HI9.out.ix.box.lt, HI9.out.ix.ents.lt, (Array.getElem?_eq_some_iff.1 e1).1, F9.out.lt⟩)
 have C10 := hid hc2
 have HQ2 := hid hq2
 have HO := hid hown
 have l0 := hlc 0 _ rfl
 have l1 := hlc 1 _ rfl
 have HL := hid (And.intro hlB (And.intro hlz (And.intro hlf hlc)))
 have f0 := F10.out.cell (j := 0) rfl
 have f1 := F10.out.cell (j := 1) rfl
 have fl' := F10.out.lt
 have HSE : Hid (∀ X, Below V1.heap.size V1 X → Calls Tryz.prog 27 #[.agg #[.string (bs fid), .slice pa q2.length pc], .agg #[.string (bs fid), .slice fa fns.length fc]] X (Gives (.bool true) X)) := hid fun X hX => by
  have h := sameE_any ⟨fid, fns⟩ ⟨fid, fns⟩ (.slice pa q2.length pc) (.slice fa fns.length fc) X (by rw [← HQ2.out]; exact (C10.out.below hX).sl) (HF.out.below (B10.out.trans (hX.mono B10.out.size)))
  rwa [decide_eq_true rfl] at h
 clear hq2 hc2 hql hlB hlc hlf hown heo hb10
 go_wp2_with fail
 refine wp_heldS (S := StillAt V1) (by kernel_rfl) ?_
 simp only [List.size_toArray, List.length_cons, List.length_nil, Nat.reduceAdd]
 intro hc
 have S0 : StillAt V1 (Array.replicate 11 false) V1.drew := (Below.refl _ _).drew
 refine wpAnyS_take (i := 0) (v := .slice (some ⟨g2, 0, none⟩) 1 lc) rfl (by kernel_rfl) (by kernel_rfl) (by kernel_rfl) (fun _ _ _ h => h) (fun _ _ => Iff.rfl) hc (by first | rfl | simp [Region.wanted]) (fun wx hx => ?_) S0 (fun hc S0 => ?_)
 ·go_simp
 try simp only [tk1, tk3, Act.put, tk4, tk5, tk6]
 refine wpAnyS_take (i := 1) (v := .int .i64 1) rfl (by kernel_rfl) (by kernel_rfl) (by kernel_rfl) (fun _ _ _ h => h) (fun _ _ => Iff.rfl) hc (by first | rfl | simp [Region.wanted]) (fun wx hx => ?_) S0 (fun hc S0 => ?_)
 ·go_simp
 try simp only [tk1, tk2, tk3, Act.put, tk4, tk5, tk6]
 refine wpAnyS_take (i := 2) (v := .bool false) rfl (by kernel_rfl) (by kernel_rfl) (by kernel_rfl) (fun _ _ _ h => h) (fun _ _ => Iff.rfl) hc (by first | rfl | simp [Region.wanted]) (fun wx hx => ?_) S0 (fun hc S0 => ?_)
 ·go_simp
 try simp only [tk1, tk2, tk3, Act.put, tk4, tk5, tk6]
 refine wpAnyS_take (i := 3) (v := .bool false) rfl (by kernel_rfl) (by kernel_rfl) (by kernel_rfl) (fun _ _ _ h => h) (fun _ _ => Iff.rfl) hc (by first | rfl | simp [Region.wanted]) (fun wx hx => ?_) S0 (fun hc S0 => ?_)
 ·go_simp
 try simp only [tk1, tk2, tk3, Act.put, tk4, tk5, tk6]
 refine wpAnyS_take (i := 4) (v := .slice (some ⟨g2, 0, none⟩) 1 lc) rfl (by kernel_rfl) (by kernel_rfl) (by kernel_rfl) (fun _ _ _ h => h) (fun _ _ => Iff.rfl) hc (by first | rfl | simp [Region.wanted]) (fun wx hx => ?_) S0 (fun hc S0 => ?_)
 ·go_simp
 try simp only [tk1, tk2, tk3, Act.put, tk4, tk5, tk6]
 refine wpAnyS_take (i := 5) (v := .pointer (some ⟨g2, 0, none⟩)) rfl (by kernel_rfl) (by kernel_rfl) (by kernel_rfl) (fun _ _ _ h => h) (fun _ _ => Iff.rfl) hc (by first | rfl | simp [Region.wanted]) (fun wx hx => ?_) S0 (fun hc S0 => ?_)
 ·go_simp
 try simp only [tk1, tk2, tk3, Act.put, tk4, tk5, tk6]
 refine wpAnyS_take (i := 6) (v := .agg #[.string (bs fid), .slice pa q2.length pc]) rfl (by kernel_rfl) (by kernel_rfl) (by kernel_rfl) (fun _ _ _ h => h) (fun _ _ => Iff.rfl) hc (by first | rfl | simp [Region.wanted]) (fun wx hx => ?_) S0 (fun hc S0 => ?_)
 ·have y0 := (hx.still.cell (p := ⟨g2, 0, none⟩) hlz).trans l0; have y1 := (hx.still.cell (p := ⟨g2, 1, none⟩) hlz).trans l1
  go_simp
 try simp only [tk1, tk2, tk3, Act.put, tk4, tk5, tk6]
 refine wpAnyS_take (i := 7) (v := .agg #[.string (bs fid), .slice fa fns.length fc]) rfl (by kernel_rfl) (by kernel_rfl) (by kernel_rfl) (fun _ _ _ h => h) (fun _ _ => Iff.rfl) hc (by first | rfl | simp [Region.wanted]) (fun wx hx => ?_) S0 (fun hc S0 => ?_)
 ·have y0 := (hx.still.cell (p := ⟨W.heap.size + 1, 0, none⟩) fl').trans f0; have y1 := (hx.still.cell (p := ⟨W.heap.size + 1, 1, none⟩) fl').trans f1
  go_simp
 try simp only [tk1, tk2, tk3, Act.put, tk4, tk5, tk6]
 refine wpAnyS_one (i := 8) rfl (by kernel_rfl) (by rfl) hc (fun K' hK => ?_)
 go_simp
 refine (HSE.out _ (Below.refl _ V1).drew).mono ?_
 rintro e Y ⟨rfl, hbY⟩
 have hb11 : Below V1.heap.size V1 Y := Below.step (Below.refl _ V1).drew hbY
 clear hbY
 refine hK.out _ _ hb11 (fun hc => ?_)
 clear hK K'
 try simp only [tk1, tk2, tk3, Act.put, tk4, tk5, tk6]
 refine wpAnyS_one (i := 9) rfl (by kernel_rfl) (by rfl) hc (fun K' hK => ?_)
 go_simp
 refine hK.out _ _ hb11 (fun hc => ?_)
 clear hK K'
 try simp only [tk1, tk2, tk3, Act.put, tk4, tk5, tk6]
 refine wpAnyS_one (i := 10) rfl (by kernel_rfl) (by rfl) hc (fun K' hK => ?_)
 go_simp
 refine hK.out _ _ hb11 (fun hc => ?_)
 clear hK K'
 try simp only [tk1, tk2, tk3, Act.put, tk4, tk5, tk6]
 refine wpAnyS_done (by kernel_rfl) ?_ _
 clear hc S0
 clear S0 HSE f0 f1 fl' l0 l1
 obtain ⟨x, xr, rfl⟩ : ∃ x xr, q2 = x :: xr := by
  cases q2 with
  | nil =>
   have h1 := HPR.out
   rw [← HQ2.out] at h1
   simp [Li.proper] at h1
  | cons x xr => exact ⟨x, xr, rfl⟩
 have hx1 : 0 < x.1.words.length := by
  have h1 := (Li.proper_few HPR.out).2 x.1 (by rw [← HQ2.out]; exact List.mem_cons_self)
  exact (Li.nm_few h1).1
 have C11 := hid (C10.out.below hb11)
 have B11 := hid (Below.step B10.out hb11)
 have HI11 := hid (HI10.out.below hb11)
 have Z11B := hid hb11
 obtain ⟨g3, pc', hpm, hpB, hpz, hpc, hpf⟩ := own_first C11.out.own
 obtain ⟨rfl, rfl⟩ : pa = some ⟨g3, 0, none⟩ ∧ pc = pc' := by
  simp only [Value.slice.injEq] at hpm
  exact ⟨hpm.1, hpm.2.2⟩
 have hxs := C11.out.ws x List.mem_cons_self
 obtain ⟨xd, xs, hxd⟩ : ∃ xd xs, x.1.words = xd :: xs := by
  cases h : x.1.words with
  | nil => rw [h] at hx1; simp at hx1
  | cons xd xs => exact ⟨xd, xs, rfl⟩
 rw [hxd] at hxs
 obtain ⟨g4, xc, hxv, hkB, hkz, hkc, hkf⟩ := own_first hxs
 have n1 := hpc 1 _ rfl
 rw [hxv] at n1
 have s0 := hkc 0 _ rfl
 have sf := hkf 0
 have l1 := (hb11.cell (p := ⟨g2, 1, none⟩) HL.out.2.1).trans (HL.out.2.2.2 1 _ rfl)
 have lz : g2 < Y.heap.size := Nat.lt_of_lt_of_le HL.out.2.1 hb11.size
 have hlen : (0 : Int) < ((x :: xr).length : Int) := by simp
 have hlen1 : (0 : Int) < ((xd :: xs).length : Int) := by simp
 have HG3 := hid (And.intro hpB (And.intro hpz (And.intro hkB hkz)))
 have HGC3 := hid (And.intro (hpc 0 _ rfl) (And.intro (hpc 1 _ rfl) (And.intro (hpf 0) (hpf 1))))
 have hgg : g3 ≠ g4 := fun e => owns_apart C11.out.own (C11.out.ws x List.mem_cons_self) (by decide) (b := g3) rfl (by rw [hxv, e]; rfl)
 clear hpm hxs hpB hkB hpc hpf hkc hkf hx1 hb11
 obtain ⟨Y1, hY1⟩ : ∃ X, X = Y.setCell ⟨g4, 0, none⟩ (.string ⟨#[99, 104, 97, 110, 103, 101, 100]⟩) := ⟨_, rfl⟩
 have hgY := set_grown_at Y g4 0 (.string ⟨#[99, 104, 97, 110, 103, 101, 100]⟩)
 rw [← hY1] at hgY
 have HO11 := hid (ownsRow_below HO.out Z11B.out)
 have h24 : g2 ≠ g4 := fun e => owns_apart HO11.out (C11.out.ws x List.mem_cons_self) (by decide) (b := g2) rfl (by rw [hxv, e]; rfl)
 have h23 : g2 ≠ g3 := fun e => owns_apart HO11.out C11.out.own (by decide) (b := g2) rfl (by rw [e]; rfl)
 go_upto_region 16 with (fail)
 rw [← hY1]
 have B12 := hid (show Below W.heap.size W Y1 by rw [hY1]; exact B11.out.setCell (p := ⟨g4, 0, none⟩) (by have := HG3.out; have := B9.out.size; show W.heap.size ≤ g4; omega) _)
 clear hY1 n1 s0 sf
 have HI12 := hid (show IxT Y1 px eb cb t _ _ _ bd (fun k => k < W9.heap.size) P 0 from ⟨HI11.out.ix.kept hgY (by have := HG3.out; have := HSZ9.out; omega) (by have := HG3.out; have := HSZ9.out; omega) (by have := HG3.out; have := HSZ9.out; omega) (fun k hk => by have := HG3.out; omega), TA.out.below B12.out, HTT.out.below B12.out⟩)
 have F12 := hid ((F10.out.below Z11B.out).kept hgY (fun e => by have := HG3.out; have := Option.some.inj e; have := HSZ9.out; omega))
 have hbl := hgY.block g2 lz (fun e => h24 (Option.some.inj e))
 have HL12 := hid (show Y1.cell? ⟨g2, 0, none⟩ = some (.string (bs fid)) ∧ Y1.cell? ⟨g2, 1, none⟩ = some (.slice (some ⟨g3, 0, none⟩) (x :: xr).length pc) ∧ Y1.frozen? ⟨g2, 0, none⟩ = false ∧ g2 < Y1.heap.size from
  ⟨(World.cell?_of_block (a := ⟨g2, 0, none⟩) hbl).trans ((Z11B.out.cell (p := ⟨g2, 0, none⟩) HL.out.2.1).trans (HL.out.2.2.2 0 _ rfl)), (World.cell?_of_block (a := ⟨g2, 1, none⟩) hbl).trans l1,
   (World.frozen?_of_block (a := ⟨g2, 0, none⟩) hbl).trans ((World.frozen?_of_block (a := ⟨g2, 0, none⟩) (Z11B.out.block g2 HL.out.2.1)).trans (HL.out.2.2.1 0)), Nat.lt_of_lt_of_le lz hgY.size⟩)
 have hbk := hgY.block g3 HG3.out.2.1 (fun e => hgg (Option.some.inj e))
 have HN12 := hid (show Y1.cell? ⟨g3, 0, none⟩ = some (.int .i64 x.1.script) ∧ Y1.cell? ⟨g3, 1, none⟩ = some x.2 ∧ Y1.frozen? ⟨g3, 0, none⟩ = false ∧ Y1.frozen? ⟨g3, 1, none⟩ = false ∧ g3 < Y1.heap.size from
  ⟨(World.cell?_of_block (a := ⟨g3, 0, none⟩) hbk).trans HGC3.out.1, (World.cell?_of_block (a := ⟨g3, 1, none⟩) hbk).trans HGC3.out.2.1, (World.frozen?_of_block (a := ⟨g3, 0, none⟩) hbk).trans HGC3.out.2.2.1, (World.frozen?_of_block (a := ⟨g3, 1, none⟩) hbk).trans HGC3.out.2.2.2, Nat.lt_of_lt_of_le HG3.out.2.1 hgY.size⟩)
 clear hbl hbk l1 lz hgY hpz hkz
 have m1 := HL12.out.2.1
 have ml := HL12.out.2.2.2
 have hne : ¬ g2 = g3 := h23
 refine wp_heldS (S := HeldC 7 (fun _ => True) (fun b => b = g3) Y1) (by kernel_rfl) ?_
 simp only [List.size_toArray, List.length_cons, List.length_nil, Nat.reduceAdd]
 intro hc
 have S0 : HeldC 7 (fun _ => True) (fun b => b = g3) Y1 (Array.replicate 8 false) Y1.drew := ⟨.inr trivial, (Tch.refl _ Y1).step (Below.refl _ _).drew⟩
 refine wpAnyS_take (i := 0) (v := .slice (some ⟨g2, 0, none⟩) 1 lc) rfl (by kernel_rfl) (by kernel_rfl) (by kernel_rfl) (fun _ _ _ h => h) (fun _ _ => HeldC.set_ (by decide) _ _) hc (by first | rfl | simp [Region.wanted]) (fun wx hx => ?_) S0 (fun hc S0 => ?_)
 ·go_simp
 try simp only [tk1, tk3, Act.put, tk4, tk5, tk6]
 refine wpAnyS_take (i := 1) (v := .pointer (some ⟨g2, 0, none⟩)) rfl (by kernel_rfl) (by kernel_rfl) (by kernel_rfl) (fun _ _ _ h => h) (fun _ _ => HeldC.set_ (by decide) _ _) hc (by first | rfl | simp [Region.wanted]) (fun wx hx => ?_) S0 (fun hc S0 => ?_)
 ·go_simp
 try simp only [tk1, tk2, tk3, Act.put, tk4, tk5, tk6]
 refine wpAnyS_take (i := 2) (v := .pointer (some ⟨g2, 1, none⟩)) rfl (by kernel_rfl) (by kernel_rfl) (by kernel_rfl) (fun _ _ _ h => h) (fun _ _ => HeldC.set_ (by decide) _ _) hc (by first | rfl | simp [Region.wanted]) (fun wx hx => ?_) S0 (fun hc S0 => ?_)
 ·go_simp
 try simp only [tk1, tk2, tk3, Act.put, tk4, tk5, tk6]
 refine wpAnyS_take (i := 3) (v := .slice (some ⟨g3, 0, none⟩) (xr.length + 1) pc) rfl (by kernel_rfl) (by kernel_rfl) (by kernel_rfl) (fun _ _ _ h => h) (fun _ _ => HeldC.set_ (by decide) _ _) hc (by first | rfl | simp [Region.wanted]) (fun wx hx => ?_) S0 (fun hc S0 => ?_)
 ·have y := (World.cell?_of_block (a := ⟨g2, 1, none⟩) (hx.tee.block _ ml hne)).trans m1
  go_simp
 try simp only [tk1, tk2, tk3, Act.put, tk4, tk5, tk6]
 obtain ⟨D, hD⟩ : ∃ B, B = Y1.drew := ⟨_, rfl⟩
 have hbD : Below Y1.heap.size Y1 D := by rw [hD]; exact (Below.refl _ Y1).drew
 rw [← hD]
 clear S0 hD
 refine wpAnyS_one (i := 4) rfl (by kernel_rfl) (by rfl) hc (fun K' hK => ?_)
 go_simp
 obtain ⟨E1, hE1⟩ : ∃ X, X = D.alloc (.cells #[.string ⟨#[111, 116, 104, 101, 114]⟩] 9) := ⟨_, rfl⟩
 rw [← hE1]
 have hb1 : Below Y1.heap.size Y1 E1 := by rw [hE1]; exact Below.step hbD ((Below.refl _ D).alloc (Nat.le_refl _) _)
 clear hE1
 refine hK.out _ _ ⟨.inr trivial, Tch.of_below hb1 _⟩ (fun hc => ?_)
 clear hK K'
 try simp only [tk1, tk2, tk3, Act.put, tk4, tk5, tk6]
 have HPL := hid (plain16_any (some ⟨D.heap.size, 0, none⟩) 1 1 E1)
 refine wpAnyS_one (i := 5) rfl (by kernel_rfl) (by rfl) hc (fun K' hK => ?_)
 go_simp
 refine (HPL.out).mono ?_
 rintro e Y2 ⟨rfl, hbY⟩
 have hb2 := Below.step hb1 hbY
 clear hb1 hbY HPL
 refine hK.out _ _ ⟨.inr trivial, Tch.of_below hb2 _⟩ (fun hc => ?_)
 clear hK K'
 try simp only [tk1, tk2, tk3, Act.put, tk4, tk5, tk6]
 refine wpAnyS_one (i := 6) rfl (by kernel_rfl) (by rfl) hc (fun K' hK => ?_)
 go_simp
 refine hK.out _ _ ⟨.inr trivial, Tch.of_below hb2 _⟩ (fun hc => ?_)
 clear hK K'
 try simp only [tk1, tk2, tk3, Act.put, tk4, tk5, tk6]
 obtain ⟨p0, p1, pf0, pf1, pz⟩ := HN12.out
 have p0 := (hb2.cell (p := ⟨g3, 0, none⟩) pz).trans p0
 have p1 := (hb2.cell (p := ⟨g3, 1, none⟩) pz).trans p1
 have pf0 := (World.frozen?_of_block (a := ⟨g3, 0, none⟩) (hb2.block g3 pz)).trans pf0
 have pf1 := (World.frozen?_of_block (a := ⟨g3, 1, none⟩) (hb2.block g3 pz)).trans pf1
 have pz := Nat.lt_of_lt_of_le pz hb2.size
 refine wpAnyS_one (i := 7) rfl (by kernel_rfl) (by rfl) hc (fun K' hK => ?_)
 go_simp
 refine hK.out _ _ ⟨.inl rfl, ((Tch.of_below hb2 (fun b => b = g3)).setCell (a := ⟨g3, 0, none⟩) (.inl rfl) _).setCell (a := ⟨g3, 1, none⟩) (.inl rfl) _⟩ (fun hc => ?_)
 clear hK K'
 try simp only [tk1, tk2, tk3, Act.put, tk4, tk5, tk6]
 refine wpAnyS_done (by kernel_rfl) ?_ _
 obtain ⟨Z2, hZ⟩ : ∃ X, X = Y2.setCell ⟨g3, 0, none⟩ (.int .i64 1) := ⟨_, rfl⟩
 obtain ⟨Y3, hY3⟩ : ∃ X, X = Z2.setCell ⟨g3, 1, none⟩ (.slice (some ⟨D.heap.size, 0, none⟩) 1 1) := ⟨_, rfl⟩
 have hgZ := set_grown_at Y2 g3 0 (.int .i64 1)
 have hg3 := set_grown_at Z2 g3 1 (.slice (some ⟨D.heap.size, 0, none⟩) 1 1)
 rw [← hZ] at hgZ
 rw [← hY3] at hg3
 rw [← hZ, ← hY3]
 have hgW : W.heap.size ≤ g3 := by have := HG3.out; have := B9.out.size; omega
 have B13 := hid (show Below W.heap.size W Y3 by rw [hY3, hZ]; exact ((Below.step B12.out hb2).setCell (p := ⟨g3, 0, none⟩) hgW _).setCell (p := ⟨g3, 1, none⟩) hgW _)
 have HI13 := hid (show IxT Y3 px eb cb t _ _ _ bd (fun k => k < W9.heap.size) P 0 by
  have e0 := HG3.out
  have e1 := HSZ9.out
  refine ⟨((HI12.out.ix.below hb2).kept hgZ ?_ ?_ ?_ ?_).kept hg3 ?_ ?_ ?_ ?_, TA.out.below B13.out, HTT.out.below B13.out⟩
  all_goals first | omega | (intro k hk; omega))
 have F13 := hid (((F12.out.below hb2).kept hgZ (fun e => by have := HG3.out; have := Option.some.inj e; have := HSZ9.out; omega)).kept hg3 (fun e => by have := HG3.out; have := Option.some.inj e; have := HSZ9.out; omega))
 have hq2 : g2 < Y2.heap.size := Nat.lt_of_lt_of_le ml hb2.size
 have k1 := (hgZ.block g2 hq2 (fun e => h23 (Option.some.inj e))).trans (hb2.block g2 ml)
 have hbl := (hg3.block g2 (Nat.lt_of_lt_of_le hq2 hgZ.size) (fun e => h23 (Option.some.inj e))).trans k1
 have l0 := (World.cell?_of_block (a := ⟨g2, 0, none⟩) hbl).trans HL12.out.1
 have lf := (World.frozen?_of_block (a := ⟨g2, 0, none⟩) hbl).trans HL12.out.2.2.1
 have lz : g2 < Y3.heap.size := Nat.lt_of_lt_of_le hq2 (Nat.le_trans hgZ.size hg3.size)
 clear hc hb2 p0 p1 pf0 pf1 pz hgZ hg3 hZ hY3 hgW m1 ml hne hbD k1 hbl hq2
 obtain ⟨Y4, hY4⟩ : ∃ X, X = Y3.setCell ⟨g2, 0, none⟩ (.string ⟨#[122]⟩) := ⟨_, rfl⟩
 have hg4 := set_grown_at Y3 g2 0 (.string ⟨#[122]⟩)
 rw [← hY4] at hg4
 go_upto_region 18 with (fail)
 rw [← hY4]
 have HG2 := hid (show W9.heap.size ≤ g2 from HL.out.1)
 have B14 := hid (show Below W.heap.size W Y4 by rw [hY4]; exact B13.out.setCell (p := ⟨g2, 0, none⟩) (by have := HG2.out; have := B9.out.size; show W.heap.size ≤ g2; omega) _)
 have HI14 := hid (show IxT Y4 px eb cb t _ _ _ bd (fun k => k < W9.heap.size) P 0 from ⟨HI13.out.ix.kept hg4 (by have := HG2.out; have := HSZ9.out; omega) (by have := HG2.out; have := HSZ9.out; omega) (by have := HG2.out; have := HSZ9.out; omega) (fun k hk => by have := HG2.out; omega), TA.out.below B14.out, HTT.out.below B14.out⟩)
 have F14 := hid (F13.out.kept hg4 (fun e => by have := HG2.out; have := Option.some.inj e; have := HSZ9.out; omega))
 clear hY4 hg4 l0 lf lz
 have HEN2 : Hid (∀ X, Below Y4.heap.size Y4 X → _) := hid fun X hX => entries_raw px eb cb t _ _ _ bd _ P 0 X (HI14.out.below hX)
 have HPS := hid (sort_one HP.out)
 have HSA : Hid (∀ (ps : List (Li.En × Value)) (v : Value) (X : World) (g : Nat), Below Y4.heap.size Y4 X → EnsRaw X v ps → ps.map Prod.fst = [⟨fid, fns⟩] → Blk X g 40 [.string (bs fid), .slice fa fns.length fc] → Calls Tryz.prog 21 #[v, .slice (some ⟨g, 0, none⟩) 1 1] X (Gives (.bool true) X)) := hid fun ps v X g hX hp hf hk => by
  have h := sameAll_any ps [(⟨fid, fns⟩, .slice fa fns.length fc)] v (.slice (some ⟨g, 0, none⟩) 1 1) X hp ⟨SlOf.block hk rfl (fun _ _ => rfl) rfl (by decide), fun p hp => by rw [List.mem_singleton.1 hp]; exact HF.out.below (Below.step B14.out hX)⟩
  rwa [decide_eq_true (show ps.map Prod.fst = ([(⟨fid, fns⟩, Value.slice fa fns.length fc)] : List (Li.En × Value)).map Prod.fst from hf)] at h
 have f0 := F14.out.cell (j := 0) rfl
 have f1 := F14.out.cell (j := 1) rfl
 have fl' := F14.out.lt
 refine wp_heldS (S := StillAt Y4) (by kernel_rfl) ?_
 simp only [List.size_toArray, List.length_cons, List.length_nil, Nat.reduceAdd]
 intro hc
 have S0 : StillAt Y4 (Array.replicate 9 false) Y4.drew := (Below.refl _ _).drew
 refine wpAnyS_take (i := 0) (v := .bool true) rfl (by kernel_rfl) (by kernel_rfl) (by kernel_rfl) (fun _ _ _ h => h) (fun _ _ => Iff.rfl) hc (by first | rfl | simp [Region.wanted]) (fun wx hx => ?_) S0 (fun hc S0 => ?_)
 ·go_simp
 try simp only [tk1, tk3, Act.put, tk4, tk5, tk6]
 refine wpAnyS_take (i := 1) (v := .bool true) rfl (by kernel_rfl) (by kernel_rfl) (by kernel_rfl) (fun _ _ _ h => h) (fun _ _ => Iff.rfl) hc (by first | rfl | simp [Region.wanted]) (fun wx hx => ?_) S0 (fun hc S0 => ?_)
 ·go_simp
 try simp only [tk1, tk2, tk3, Act.put, tk4, tk5, tk6]
 refine wpAnyS_take (i := 2) (v := .pointer (some ⟨px, 0, none⟩)) rfl (by kernel_rfl) (by kernel_rfl) (by kernel_rfl) (fun _ _ _ h => h) (fun _ _ => Iff.rfl) hc (by first | rfl | simp [Region.wanted]) (fun wx hx => ?_) S0 (fun hc S0 => ?_)
 ·go_simp
 try simp only [tk1, tk2, tk3, Act.put, tk4, tk5, tk6]
 refine wpAnyS_take (i := 4) (v := .agg #[.string (bs fid), .slice fa fns.length fc]) rfl (by kernel_rfl) (by kernel_rfl) (by kernel_rfl) (fun _ _ _ h => h) (fun _ _ => Iff.rfl) hc (by first | rfl | simp [Region.wanted]) (fun wx hx => ?_) S0 (fun hc S0 => ?_)
 ·have y0 := (hx.still.cell (p := ⟨W.heap.size + 1, 0, none⟩) fl').trans f0; have y1 := (hx.still.cell (p := ⟨W.heap.size + 1, 1, none⟩) fl').trans f1
  go_simp
 try simp only [tk1, tk2, tk3, Act.put, tk4, tk5, tk6]
 obtain ⟨D4, hD4⟩ : ∃ B, B = Y4.drew := ⟨_, rfl⟩
 have BD : Below Y4.heap.size Y4 D4 := by rw [hD4]; exact (Below.refl _ Y4).drew
 rw [← hD4]
 clear S0 hD4 f0 f1 fl'
 refine wpAnyS_two (i := 3) (k := 5) rfl rfl (by kernel_rfl) (by rfl) (by rfl) hc (fun K' hK => ?A1) (fun K' hK => ?B1)
 case' A1 =>
  go_simp
  refine (HEN2.out D4 BD).mono ?_
  rintro e X1 ⟨hbx, a, c, ps, rfl, hps, her⟩
  have b1 := Below.step BD hbx
  clear BD
  refine hK.out _ _ b1 (fun hc => ?_)
  clear hK K'
  have S0 : StillAt Y4 #[] X1 := b1
  try simp only [tk1, tk2, tk3, Act.put, tk4, tk5, tk6]
  refine wpAnyS_one (i := 5) rfl (by kernel_rfl) (by rfl) hc (fun K' hK => ?_)
  go_simp
  obtain ⟨X2, hX2⟩ : ∃ X, X = X1.alloc (.cells #[.string (bs fid), .slice fa fns.length fc] 40) := ⟨_, rfl⟩
  rw [← hX2]
  have bx2 : Below X1.heap.size X1 X2 := by rw [hX2]; exact (Below.refl _ _).alloc (Nat.le_refl _) _
  have kx : Blk X2 X1.heap.size 40 [.string (bs fid), .slice fa fns.length fc] := by rw [hX2]; exact Blk.new _ _ _
  have b2 := Below.step b1 bx2
  have HSX := hid (HSA.out ps _ X2 X1.heap.size b2 (her.below bx2) (hps.trans HPS.out) kx)
  clear hX2 bx2 kx her hps hbx b1 S0
  refine hK.out _ _ b2 (fun hc => ?_)
  clear hK K'
  have S0 : StillAt Y4 #[] X2 := b2
  try simp only [tk1, tk2, tk3, Act.put, tk4, tk5, tk6]
  refine wpAnyS_one (i := 6) rfl (by kernel_rfl) (by rfl) hc (fun K' hK => ?_)
  go_simp
  refine (HSX.out).mono ?_
  rintro e X3 ⟨rfl, hb3⟩
  have b3 := Below.step b2 hb3
  clear b2 hb3 S0 HSX
 case' B1 =>
  go_simp
  obtain ⟨X1, hX1⟩ : ∃ X, X = D4.alloc (.cells #[.string (bs fid), .slice fa fns.length fc] 40) := ⟨_, rfl⟩
  rw [← hX1]
  have bx2 : Below D4.heap.size D4 X1 := by rw [hX1]; exact (Below.refl _ _).alloc (Nat.le_refl _) _
  have kx : Blk X1 D4.heap.size 40 [.string (bs fid), .slice fa fns.length fc] := by rw [hX1]; exact Blk.new _ _ _
  have b1 := Below.step BD bx2
  clear hX1 bx2 BD
  refine hK.out _ _ b1 (fun hc => ?_)
  clear hK K'
  have S0 : StillAt Y4 #[] X1 := b1
  try simp only [tk1, tk2, tk3, Act.put, tk4, tk5, tk6]
  refine wpAnyS_one (i := 3) rfl (by kernel_rfl) (by rfl) hc (fun K' hK => ?_)
  go_simp
  refine (HEN2.out X1 b1).mono ?_
  rintro e X2 ⟨hbx, a, c, ps, rfl, hps, her⟩
  have b2 := Below.step b1 hbx
  have HSX := hid (HSA.out ps _ X2 D4.heap.size b2 her (hps.trans HPS.out) (kx.below hbx))
  clear kx her hps hbx b1 S0
  refine hK.out _ _ b2 (fun hc => ?_)
  clear hK K'
  have S0 : StillAt Y4 #[] X2 := b2
  try simp only [tk1, tk2, tk3, Act.put, tk4, tk5, tk6]
  refine wpAnyS_one (i := 6) rfl (by kernel_rfl) (by rfl) hc (fun K' hK => ?_)
  go_simp
  refine (HSX.out).mono ?_
  rintro e X3 ⟨rfl, hb3⟩
  have b3 := Below.step b2 hb3
  clear b2 hb3 S0 HSX
 all_goals
  refine hK.out _ _ b3 (fun hc => ?_)
  clear hK K'
  have S0 : StillAt Y4 #[] X3 := b3
  try simp only [tk1, tk2, tk3, Act.put, tk4, tk5, tk6]
  refine wpAnyS_one (i := 7) rfl (by kernel_rfl) (by rfl) hc (fun K' hK => ?_)
  go_simp
  refine hK.out _ _ b3 (fun hc => ?_)
  clear hK K'
  have S0 : StillAt Y4 #[] X3 := b3
  try simp only [tk1, tk2, tk3, Act.put, tk4, tk5, tk6]
  refine wpAnyS_one (i := 8) rfl (by kernel_rfl) (by rfl) hc (fun K' hK => ?_)
  go_simp
  refine hK.out _ _ b3 (fun hc => ?_)
  clear hK K'
  have S0 : StillAt Y4 #[] X3 := b3
  try simp only [tk1, tk2, tk3, Act.put, tk4, tk5, tk6]
  refine wpAnyS_done (by kernel_rfl) ?_ _
  clear hc S0
  have B15 := hid (Below.step B14.out b3)
  clear b3
  go_wp2_with fail
  go_ret
  exact ⟨rfl, B15.out⟩

end Go.Proofs.YtdghfenbfbdijaaGreatDoor
