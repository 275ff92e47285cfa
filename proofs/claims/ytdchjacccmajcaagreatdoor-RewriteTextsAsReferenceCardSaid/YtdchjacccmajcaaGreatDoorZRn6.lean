/-
 The law file's table of chapter 10. Conditions: none.
-/
import Derived.Test.YtdchjacccmajcaaGreatDoorZRn5
namespace Go.Proofs.YtdchjacccmajcaaGreatDoor
open Go.RowKit Go.Lib Go.Maps

theorem Tryz.infoRule10 : (Tryz.prog.info? 34).map (fun i => (i.zero, i.size, i.bytes)) = some (some (.agg #[.int .i64 0, .string ⟨#[]⟩, .string ⟨#[]⟩, .int .i64 0]), 4, 48) := by kernel_rfl

/-- the table as it grows -/
structure TbI (p : Nat) (W X : World) (k : Nat) (rv : Value) : Prop where
 t : Blk X (p + 3) 25 [rv, .slice (some ⟨p + 1, 0, none⟩) 1 1, .slice (some ⟨p + 2, 0, none⟩) 1 1, .int .i64 4, .int .i64 2, .int .i64 1]
 r : Blk X p 25 [.slice none 0 0, .slice none 0 0, .slice none 0 0, .int .i64 0, .int .i64 0, .int .i64 0]
 d : Blk X (p + 1) 58 [.int .i64 1, .string (bs [97, 108]), .int .i64 1]
 e : Blk X (p + 2) 58 [.int .i64 1, .string (bs [97]), .int .i64 3]
 own : X.ownsRow (p + 4) 34 4 rv k ((Rw.tab.rules.take k).flatMap ruleCells)
 below : Below W.heap.size W X
theorem TbI.step {p : Nat} {W X Y : World} {k : Nat} {rv : Value} (h : TbI p W X k rv) (hb : Below X.heap.size X Y) : TbI p W Y k rv :=
 ⟨h.t.below hb, h.r.below hb, h.d.below hb, h.e.below hb, ownsRow_below h.own hb, Below.step h.below hb⟩
theorem TbI.app {p : Nat} {W X Y : World} {k m : Nat} {rv v' : Value} {xs : List Value} (h : TbI p W X k rv) (hp : p = W.heap.size) (hg : X.grownBy Y rv.ownBlock) (ho : Y.ownsRow (p + 4) 34 4 v' (k + m) ((Rw.tab.rules.take k).flatMap ruleCells ++ xs))
  (hx : (Rw.tab.rules.take k).flatMap ruleCells ++ xs = (Rw.tab.rules.take (k + m)).flatMap ruleCells) :
  TbI p W (Y.setCell ⟨p + 3, 0, none⟩ v') (k + m) v' ∧ Y.cell? ⟨p + 3, 0, none⟩ = some rv ∧ Y.frozen? ⟨p + 3, 0, none⟩ = false ∧ p + 3 < Y.heap.size := by
 have keep : ∀ b, b < p + 4 → rv.ownBlock ≠ some b := fun b hb e => by have := (h.own.lt b e).1; omega
 have hz := h.t.lt
 have ht := h.t.kept hg (keep _ (by omega))
 refine ⟨⟨ht.set 0 v', (h.r.kept hg (keep _ (by omega))).other (by omega) _, (h.d.kept hg (keep _ (by omega))).other (by omega) _, (h.e.kept hg (keep _ (by omega))).other (by omega) _, ?_, ?_⟩, ht.cell rfl, ht.frozen 0, ht.lt⟩
 ·rw [← hx]
  refine ho.kept (grown_set Y (p + 3) 0 v') ?_
  cases hv : v'.ownBlock with
  | none => exact .inl rfl
  | some q =>
   refine .inr fun e => ?_
   cases e
   have := (ho.lt _ hv).1
   omega
 ·exact (h.below.grown hg (by have := h.below.size; omega) (fun b hb => by have := (h.own.lt b hb).1; omega)).setCell (p := ⟨p + 3, 0, none⟩) (by show W.heap.size ≤ p + 3; omega) _
theorem TbI.tcells {p : Nat} {W X : World} {k : Nat} {rv : Value} (h : TbI p W X k rv) : X.cell? ⟨p + 3, 0, none⟩ = some rv ∧ X.cell? ⟨p + 3, 1, none⟩ = some (.slice (some ⟨p + 1, 0, none⟩) 1 1) ∧ X.cell? ⟨p + 3, 2, none⟩ = some (.slice (some ⟨p + 2, 0, none⟩) 1 1) ∧ X.cell? ⟨p + 3, 3, none⟩ = some (.int .i64 4) ∧ X.cell? ⟨p + 3, 4, none⟩ = some (.int .i64 2) ∧ X.cell? ⟨p + 3, 5, none⟩ = some (.int .i64 1) ∧ p + 3 < X.heap.size :=
 ⟨h.t.cell rfl, h.t.cell rfl, h.t.cell rfl, h.t.cell rfl, h.t.cell rfl, h.t.cell rfl, h.t.lt⟩
theorem TbI.rcells {p : Nat} {W X : World} {k : Nat} {rv : Value} (h : TbI p W X k rv) : X.cell? ⟨p, 0, none⟩ = some (.slice none 0 0) ∧ X.cell? ⟨p, 1, none⟩ = some (.slice none 0 0) ∧ X.cell? ⟨p, 2, none⟩ = some (.slice none 0 0) ∧ X.cell? ⟨p, 3, none⟩ = some (.int .i64 0) ∧ X.cell? ⟨p, 4, none⟩ = some (.int .i64 0) ∧ X.cell? ⟨p, 5, none⟩ = some (.int .i64 0) ∧
  X.frozen? ⟨p, 0, none⟩ = false ∧ X.frozen? ⟨p, 1, none⟩ = false ∧ X.frozen? ⟨p, 2, none⟩ = false ∧ X.frozen? ⟨p, 3, none⟩ = false ∧ X.frozen? ⟨p, 4, none⟩ = false ∧ X.frozen? ⟨p, 5, none⟩ = false ∧ p < X.heap.size :=
 ⟨h.r.cell rfl, h.r.cell rfl, h.r.cell rfl, h.r.cell rfl, h.r.cell rfl, h.r.cell rfl, h.r.frozen 0, h.r.frozen 1, h.r.frozen 2, h.r.frozen 3, h.r.frozen 4, h.r.frozen 5, h.r.lt⟩
theorem anth {k : Nat} (h : k < 4) : ∃ r : Rw.Rule, Rw.tab.rules[k]? = some r ∧ r.script = 1 ∧ r.cost = 0 ∧ bs r.from_ = (⟨#[97, 110, 116, 104]⟩ : ByteArray).extract k (k + 1) ∧ bs r.to_ = (⟨#[97, 110, 116, 104]⟩ : ByteArray).extract k (k + 1) := by
 have : k = 0 ∨ k = 1 ∨ k = 2 ∨ k = 3 := by omega
 rcases this with rfl | rfl | rfl | rfl
 ·exact ⟨_, rfl, rfl, rfl, rfl, rfl⟩
 ·exact ⟨_, rfl, rfl, rfl, rfl, rfl⟩
 ·exact ⟨_, rfl, rfl, rfl, rfl, rfl⟩
 ·exact ⟨_, rfl, rfl, rfl, rfl, rfl⟩

/-- the example's table in memory: its value -/
def tabV (g c d e : Nat) : Value := .agg #[.slice (some ⟨g, 0, none⟩) 6 c, .slice (some ⟨d, 0, none⟩) 1 1, .slice (some ⟨e, 0, none⟩) 1 1, .int .i64 4, .int .i64 2, .int .i64 1]
def tabV2 (g c e : Nat) : Value := .agg #[.slice (some ⟨g, 20, none⟩) 1 (c - 5), .slice none 0 0, .slice (some ⟨e, 0, none⟩) 1 1, .int .i64 4, .int .i64 2, .int .i64 1]
structure Tab1 (W : World) (g c d e : Nat) : Prop where
 one : TableAt W Rw.tab (tabV g c d e)
 two : TableAt W Rw.tab2 (tabV2 g c e)
 cap : 6 ≤ c
theorem Tab1.below {W W' : World} {g c d e : Nat} (h : Tab1 W g c d e) (hb : Below W.heap.size W W') : Tab1 W' g c d e := ⟨h.one.below hb, h.two.below hb, h.cap⟩
def TabP (W : World) (e : Ending) (W' : World) : Prop := ∃ g c d q, e = .returned (tabV g c d q) ∧ Tab1 W' g c d q ∧ Below W.heap.size W W'
theorem fits_tab : (∀ r ∈ Rw.tab.rules, RuleFits r) ∧ (∀ d ∈ Rw.tab.drops, DropFits d) ∧ (∀ d ∈ Rw.tab.ends, DropFits d) := by
 refine ⟨fun r hr => ?_, fun d hd => ?_, fun d hd => ?_⟩
 ·have : ∀ r ∈ Rw.tab.rules, ((Lit.int .i64 r.script).wf && decide (r.from_.length ≤ 1000) && decide (r.to_.length ≤ 1000)) = true := by decide +kernel
  have := this r hr
  simp only [Bool.and_eq_true, decide_eq_true_eq] at this
  exact ⟨this.1.1, this.1.2, this.2⟩
 ·have : ∀ d ∈ Rw.tab.drops, ((Lit.int .i64 d.script).wf && decide (d.word.length ≤ 1000)) = true := by decide +kernel
  have := this d hd
  simp only [Bool.and_eq_true, decide_eq_true_eq] at this
  exact ⟨this.1, this.2⟩
 ·have : ∀ d ∈ Rw.tab.ends, ((Lit.int .i64 d.script).wf && decide (d.word.length ≤ 1000)) = true := by decide +kernel
  have := this d hd
  simp only [Bool.and_eq_true, decide_eq_true_eq] at this
  exact ⟨this.1, this.2⟩
/-- the table when it is whole -/
structure TbF (p : Nat) (W X : World) (rv : Value) : Prop where
 d : Blk X (p + 1) 58 [.int .i64 1, .string (bs [97, 108]), .int .i64 1]
 e : Blk X (p + 2) 58 [.int .i64 1, .string (bs [97]), .int .i64 3]
 own : X.ownsRow (p + 4) 34 4 rv 6 ((Rw.tab.rules.take 6).flatMap ruleCells)
 below : Below W.heap.size W X
theorem TbF.set {p : Nat} {W X : World} {rv : Value} (h : TbF p W X rv) (hp : W.heap.size ≤ p) (j : Nat) (v : Value) : TbF p W (X.setCell ⟨p, j, none⟩ v) rv := by
 refine ⟨h.d.other (by omega) _, h.e.other (by omega) _, h.own.kept (grown_set X p j v) ?_, h.below.setCell (p := ⟨p, j, none⟩) hp _⟩
 cases hv : rv.ownBlock with
 | none => exact .inl rfl
 | some q =>
  refine .inr fun e => ?_
  cases e
  have := (h.own.lt _ hv).1
  omega
theorem TbI.whole {p : Nat} {W X : World} {rv : Value} (h : TbI p W X 6 rv) : TbF p W X rv := ⟨h.d, h.e, h.own, h.below⟩
theorem TbF.tab {p : Nat} {W X : World} {rv : Value} (h : TbF p W X rv) : ∃ g c, rv = .slice (some ⟨g, 0, none⟩) 6 c ∧ Tab1 X g c (p + 1) (p + 2) := by
 have ho := h.own
 obtain ⟨f1, f2, f3⟩ := fits_tab
 have hs : SlOf X rv 4 ruleCells Rw.tab.rules := SlOf.own ho (fun _ _ => rfl)
 obtain ⟨a, c, rfl, h1, h2, h3⟩ := hs
 obtain ⟨g, o, rfl, hr⟩ := h3 (by decide)
 have ho0 : o = 0 := by
  rcases ho.2 with ⟨e, -⟩ | ⟨g', cap, cur, e, -⟩
  ·cases e
  ·cases e; rfl
 subst ho0
 have hd : SlOf X (.slice (some ⟨p + 1, 0, none⟩) 1 1) 3 dropCells Rw.tab.drops := SlOf.block h.d rfl (fun _ _ => rfl) rfl (by decide)
 have he : SlOf X (.slice (some ⟨p + 2, 0, none⟩) 1 1) 3 dropCells Rw.tab.ends := SlOf.block h.e rfl (fun _ _ => rfl) rfl (by decide)
 have hc6 : 6 ≤ c := h1
 have t1 : TableAt X Rw.tab (tabV g c (p + 1) (p + 2)) := ⟨⟨_, _, _, rfl, ⟨_, _, rfl, h1, h2, fun _ => ⟨g, 0, rfl, hr⟩⟩, hd, he⟩, f1, f2, f3, by decide⟩
 have hs2 : SlOf X (.slice (some ⟨g, 20, none⟩) 1 (c - 5)) 4 ruleCells Rw.tab2.rules := ⟨some ⟨g, 20, none⟩, c - 5, rfl, by show 1 ≤ c - 5; omega, by omega, fun _ => ⟨g, 20, rfl, hr.1, fun i x hx j v hv => by
  have := hr.2 (i + 5) x (by
   cases i with
   | zero => exact hx
   | succ i => simp [Rw.tab2] at hx) j v hv
  rw [show 0 + (i + 5) * 4 + j = 20 + i * 4 + j by omega] at this
  exact this⟩⟩
 have t2 : TableAt X Rw.tab2 (tabV2 g c (p + 2)) := ⟨⟨_, _, _, rfl, hs2, SlOf.nil _ _ _, he⟩, fun r hr => f1 r (by
  simp only [Rw.tab2, List.mem_singleton] at hr
  subst hr
  decide), (fun d hd => by cases hd), fun d hd => f3 d hd, by decide⟩
 exact ⟨g, c, rfl, t1, t2, hc6⟩

set_option maxRecDepth 100000 in
set_option maxHeartbeats 8000000 in
theorem table_any (W : World) : Calls Tryz.prog 35 #[] W (TabP W) := by
 obtain ⟨i0, hi, hz0, hz1, hz2⟩ := info_parts Tryz.infoRule10
 obtain ⟨p, hp⟩ : ∃ p, p = W.heap.size := ⟨_, rfl⟩
 obtain ⟨X0, hX0⟩ : ∃ X0, X0 = (((W.alloc (.cells #[.slice none 0 0, .slice none 0 0, .slice none 0 0, .int .i64 0, .int .i64 0, .int .i64 0] 25)).alloc (.cells #[.int .i64 1, .string ⟨#[97, 108]⟩, .int .i64 1] 58)).alloc (.cells #[.int .i64 1, .string ⟨#[97]⟩, .int .i64 3] 58)).alloc (.cells #[.slice none 0 0, .slice (some ⟨W.heap.size + 1, 0, none⟩) 1 1, .slice (some ⟨W.heap.size + 1 + 1, 0, none⟩) 1 1, .int .i64 4, .int .i64 2, .int .i64 1] 25) := ⟨_, rfl⟩
 have HI0 := hid (show TbI W.heap.size W X0 0 (.slice none 0 0) by
  have s1 : (W.alloc (.cells #[.slice none 0 0, .slice none 0 0, .slice none 0 0, .int .i64 0, .int .i64 0, .int .i64 0] 25)).heap.size = W.heap.size + 1 := World.size_alloc _ _
  rw [hX0]
  refine ⟨?_, ?_, ?_, ?_, World.ownsRow_nil _ _ _ _, ?_⟩
  ·have := alloc_new (((W.alloc (.cells #[.slice none 0 0, .slice none 0 0, .slice none 0 0, .int .i64 0, .int .i64 0, .int .i64 0] 25)).alloc (.cells #[.int .i64 1, .string ⟨#[97, 108]⟩, .int .i64 1] 58)).alloc (.cells #[.int .i64 1, .string ⟨#[97]⟩, .int .i64 3] 58)) (.cells #[.slice none 0 0, .slice (some ⟨W.heap.size + 1, 0, none⟩) 1 1, .slice (some ⟨W.heap.size + 1 + 1, 0, none⟩) 1 1, .int .i64 4, .int .i64 2, .int .i64 1] 25)
   rwa [World.size_alloc, World.size_alloc, World.size_alloc] at this
  ·exact (Below.heap_alloc _ _ _ (by first | (simp; done) | (simp; omega))).trans ((Below.heap_alloc _ _ _ (by first | (simp; done) | (simp; omega))).trans ((Below.heap_alloc _ _ _ (by simp)).trans (alloc_new W _)))
  ·refine (Below.heap_alloc _ _ _ (by first | (simp; done) | (simp; omega))).trans ((Below.heap_alloc _ _ _ (by simp)).trans ?_)
   have := alloc_new (W.alloc (.cells #[.slice none 0 0, .slice none 0 0, .slice none 0 0, .int .i64 0, .int .i64 0, .int .i64 0] 25)) (.cells #[.int .i64 1, .string ⟨#[97, 108]⟩, .int .i64 1] 58)
   rwa [World.size_alloc] at this
  ·refine (Below.heap_alloc _ _ _ (by simp)).trans ?_
   have := alloc_new ((W.alloc (.cells #[.slice none 0 0, .slice none 0 0, .slice none 0 0, .int .i64 0, .int .i64 0, .int .i64 0] 25)).alloc (.cells #[.int .i64 1, .string ⟨#[97, 108]⟩, .int .i64 1] 58)) (.cells #[.int .i64 1, .string ⟨#[97]⟩, .int .i64 3] 58)
   rwa [World.size_alloc, World.size_alloc] at this
  ·exact ((((Below.refl _ W).alloc (Nat.le_refl _) _).alloc (by first | (simp; done) | (simp; omega)) _).alloc (by first | (simp; done) | (simp; omega)) _).alloc (by first | (simp; done) | (simp; omega)) _)
 clear hp
 go_enter Tryz.func35, Tryz.ntmps35
 go_upto_region 2 with (fail)
 rw [← hX0]
 clear hX0
 go_wp2_with fail
 go_loopw [2] (fun iv wr => ∃ k : Nat, k ≤ 4 ∧ iv = .int .i64 k ∧ Hid (∃ rv, TbI W.heap.size W wr k rv)) (fun iv _ => 4 - (RowKit.intOf iv).toNat)
 case atStart => exact ⟨0, by omega, rfl, _, HI0.out⟩
 case round =>
  obtain ⟨k, hk, rfl, HI⟩ := hrel
  obtain ⟨rv, hI⟩ := HI.out
  have HI1 := hid hI
  obtain ⟨va, vc, rfl⟩ := ownsRow_slice hI.own
  by_cases hlt : k < 4
  ·obtain ⟨r, hr, hs, hc0, hf, ht⟩ := anth hlt
   have k0 : (0 : Int) ≤ (k : Int) := by omega
   have k1 : (k : Int) < 4 := by omega
   have k2 : (0 : Int) ≤ (k : Int) + 1 ∧ (k : Int) + 1 ≤ 4 := by omega
   have k3 : (k : Int) ≤ (k : Int) + 1 := by omega
   have k4 : ((k : Int) + 1).toNat = k + 1 := by omega
   have k5 : k ≤ k + 1 := by omega
   have k6 : k + 1 ≤ 4 := by omega
   have k7 : (0 : Int) ≤ (k : Int) + 1 := by omega
   have k8 : IntKind.i64.wrap ((k : Int) + 1) = (k : Int) + 1 := IntWalk.i64_in _ (by omega)
   have c0 := hI.t.cell (j := 0) rfl
   have cz := hI.t.lt
   have HR := hid (show (Rw.tab.rules.take k).flatMap ruleCells ++ [.int .i64 1, .string ((⟨#[97, 110, 116, 104]⟩ : ByteArray).extract k (k + 1)), .string ((⟨#[97, 110, 116, 104]⟩ : ByteArray).extract k (k + 1)), .int .i64 0] = (Rw.tab.rules.take (k + 1)).flatMap ruleCells by
    rw [rn_take hr, List.flatMap_append, List.flatMap_cons, List.flatMap_nil, List.append_nil]
    unfold ruleCells
    rw [hs, hc0, hf, ht])
   clear hr hs hc0 hf ht hI
   go_upto_region 5 with (fail)
   refine wp_heldS (S := TwoS 14 14 (fun X => X.cell? ⟨W.heap.size + 3, 0, none⟩ = some (.slice va k vc)) (fun _ => True)) (by kernel_rfl) ?_
   simp only [List.size_toArray, List.length_cons, List.length_nil, Nat.reduceAdd]
   intro hc
   have S0 : TwoS 14 14 (fun X => X.cell? ⟨W.heap.size + 3, 0, none⟩ = some (.slice va k vc)) (fun _ => True) (Array.replicate 15 false) wr.drew := ⟨.inr c0, .inr trivial⟩
   refine wpAnyS_take (i := 0) (v := .pointer (some ⟨W.heap.size + 3, 0, none⟩)) rfl (by kernel_rfl) (by kernel_rfl) (by kernel_rfl) (fun _ _ _ h => h) (fun _ _ => TwoS.set_ (by decide) (by decide) _ _) hc (by first | rfl | simp [Region.wanted]) (fun wx hx => ?_) S0 (fun hc S0 => ?_)
   ·go_simp
   try simp only [tk1, tk3, Act.put, tk4, tk5, tk6]
   refine wpAnyS_take (i := 1) (v := .slice va k vc) rfl (by kernel_rfl) (by kernel_rfl) (by kernel_rfl) (fun _ _ _ h => h) (fun _ _ => TwoS.set_ (by decide) (by decide) _ _) hc (by first | rfl | simp [Region.wanted]) (fun wx hx => ?_) S0 (fun hc S0 => ?_)
   ·have y := hx.leftN (n := 4) (by kernel_rfl)
    go_simp
   try simp only [tk1, tk2, tk3, Act.put, tk4, tk5, tk6]
   refine wpAnyS_take (i := 2) (v := .int .i64 k) rfl (by kernel_rfl) (by kernel_rfl) (by kernel_rfl) (fun _ _ _ h => h) (fun _ _ => TwoS.set_ (by decide) (by decide) _ _) hc (by first | rfl | simp [Region.wanted]) (fun wx hx => ?_) S0 (fun hc S0 => ?_)
   ·go_simp
   try simp only [tk1, tk2, tk3, Act.put, tk4, tk5, tk6]
   refine wpAnyS_take (i := 3) (v := .int .i64 k) rfl (by kernel_rfl) (by kernel_rfl) (by kernel_rfl) (fun _ _ _ h => h) (fun _ _ => TwoS.set_ (by decide) (by decide) _ _) hc (by first | rfl | simp [Region.wanted]) (fun wx hx => ?_) S0 (fun hc S0 => ?_)
   ·go_simp
   try simp only [tk1, tk2, tk3, Act.put, tk4, tk5, tk6]
   refine wpAnyS_take (i := 4) (v := .int .i64 ((k : Int) + 1)) rfl (by kernel_rfl) (by kernel_rfl) (by kernel_rfl) (fun _ _ _ h => h) (fun _ _ => TwoS.set_ (by decide) (by decide) _ _) hc (by first | rfl | simp [Region.wanted]) (fun wx hx => ?_) S0 (fun hc S0 => ?_)
   ·go_simp
   try simp only [tk1, tk2, tk3, Act.put, tk4, tk5, tk6]
   refine wpAnyS_take (i := 5) (v := .string ((⟨#[97, 110, 116, 104]⟩ : ByteArray).extract k (k + 1))) rfl (by kernel_rfl) (by kernel_rfl) (by kernel_rfl) (fun _ _ _ h => h) (fun _ _ => TwoS.set_ (by decide) (by decide) _ _) hc (by first | rfl | simp [Region.wanted]) (fun wx hx => ?_) S0 (fun hc S0 => ?_)
   ·go_simp
   try simp only [tk1, tk2, tk3, Act.put, tk4, tk5, tk6]
   refine wpAnyS_take (i := 6) (v := .int .i64 k) rfl (by kernel_rfl) (by kernel_rfl) (by kernel_rfl) (fun _ _ _ h => h) (fun _ _ => TwoS.set_ (by decide) (by decide) _ _) hc (by first | rfl | simp [Region.wanted]) (fun wx hx => ?_) S0 (fun hc S0 => ?_)
   ·go_simp
   try simp only [tk1, tk2, tk3, Act.put, tk4, tk5, tk6]
   refine wpAnyS_take (i := 7) (v := .int .i64 k) rfl (by kernel_rfl) (by kernel_rfl) (by kernel_rfl) (fun _ _ _ h => h) (fun _ _ => TwoS.set_ (by decide) (by decide) _ _) hc (by first | rfl | simp [Region.wanted]) (fun wx hx => ?_) S0 (fun hc S0 => ?_)
   ·go_simp
   try simp only [tk1, tk2, tk3, Act.put, tk4, tk5, tk6]
   refine wpAnyS_take (i := 8) (v := .int .i64 ((k : Int) + 1)) rfl (by kernel_rfl) (by kernel_rfl) (by kernel_rfl) (fun _ _ _ h => h) (fun _ _ => TwoS.set_ (by decide) (by decide) _ _) hc (by first | rfl | simp [Region.wanted]) (fun wx hx => ?_) S0 (fun hc S0 => ?_)
   ·go_simp
   try simp only [tk1, tk2, tk3, Act.put, tk4, tk5, tk6]
   refine wpAnyS_take (i := 9) (v := .string ((⟨#[97, 110, 116, 104]⟩ : ByteArray).extract k (k + 1))) rfl (by kernel_rfl) (by kernel_rfl) (by kernel_rfl) (fun _ _ _ h => h) (fun _ _ => TwoS.set_ (by decide) (by decide) _ _) hc (by first | rfl | simp [Region.wanted]) (fun wx hx => ?_) S0 (fun hc S0 => ?_)
   ·go_simp
   try simp only [tk1, tk2, tk3, Act.put, tk4, tk5, tk6]
   refine wpAnyS_take (i := 10) (v := .agg #[.int .i64 1, .string ((⟨#[97, 110, 116, 104]⟩ : ByteArray).extract k (k + 1)), .string ((⟨#[97, 110, 116, 104]⟩ : ByteArray).extract k (k + 1)), .int .i64 0]) rfl (by kernel_rfl) (by kernel_rfl) (by kernel_rfl) (fun _ _ _ h => h) (fun _ _ => TwoS.set_ (by decide) (by decide) _ _) hc (by first | rfl | simp [Region.wanted]) (fun wx hx => ?_) S0 (fun hc S0 => ?_)
   ·go_simp
   try simp only [tk1, tk2, tk3, Act.put, tk4, tk5, tk6]
   refine wpAnyS_one (i := 11) rfl (by kernel_rfl) (by rfl) hc (fun K' hK => ?_)
   go_simp
   have hbA : Below wr.heap.size wr (wr.drew.alloc (.cells #[.int .i64 1, .string ((⟨#[97, 110, 116, 104]⟩ : ByteArray).extract k (k + 1)), .string ((⟨#[97, 110, 116, 104]⟩ : ByteArray).extract k (k + 1)), .int .i64 0] 34)) := (Below.refl _ wr).drew.alloc (Nat.le_refl _) _
   have hIA := HI1.out.step hbA
   refine hK.out _ _ ⟨.inr (hIA.t.cell (j := 0) rfl), .inr trivial⟩ (fun hc => ?_)
   clear hK K'
   try simp only [tk1, tk2, tk3, Act.put, tk4, tk5, tk6]
   refine wpAnyS_one (i := 12) rfl (by kernel_rfl) (by rfl) hc (fun K' hK => ?_)
   refine wp_append_own _ _ _ 22 rfl (W.heap.size + 4) 34 i0 (.agg #[.int .i64 0, .string ⟨#[]⟩, .string ⟨#[]⟩, .int .i64 0]) 4 48 Tryz.underlying22 hi hz0 hz1 hz2 rfl (by decide) _ _ _ rfl hIA.own ⟨wr.drew.heap.size, 0, none⟩ 1 1 [.int .i64 1, .string ((⟨#[97, 110, 116, 104]⟩ : ByteArray).extract k (k + 1)), .string ((⟨#[97, 110, 116, 104]⟩ : ByteArray).extract k (k + 1)), .int .i64 0] rfl rfl (cells_new rfl) (by simp [Value.oneCell']) (by unfold maxLen; omega) (by omega) (hIA.t.lt) ?_
   intro v' w8 ho8 hg8 _
   obtain ⟨a8, c8, rfl⟩ := ownsRow_slice ho8
   obtain ⟨hI8, q1, q2, q3⟩ := hIA.app (m := 1) rfl hg8 ho8 HR.out
   have HI8 := hid hI8
   refine hK.out _ _ ⟨.inr q1, .inr trivial⟩ (fun hc => ?_)
   clear hK K' hIA ho8 hg8 hI8
   try simp only [tk1, tk2, tk3, Act.put, tk4, tk5, tk6]
   refine wpAnyS_one (i := 13) rfl (by kernel_rfl) (by rfl) hc (fun K' hK => ?_)
   go_simp
   refine hK.out _ _ ⟨.inr q1, .inr trivial⟩ (fun hc => ?_)
   clear hK K'
   try simp only [tk1, tk2, tk3, Act.put, tk4, tk5, tk6]
   refine wpAnyS_one (i := 14) rfl (by kernel_rfl) (by rfl) hc (fun K' hK => ?_)
   go_simp
   refine hK.out _ _ ⟨.inl rfl, .inl rfl⟩ (fun hc => ?_)
   clear hK K'
   try simp only [tk1, tk2, tk3, Act.put, tk4, tk5, tk6]
   refine wpAnyS_done (by kernel_rfl) ?_ _
   clear hc S0 q1 q2 q3 c0 cz hbA
   go_wp2_with fail
   go_roundw
   case rel => exact ⟨k + 1, by omega, by go_num, _, HI8.out⟩
   case measure => simp [RowKit.intOf]; omega
  ·have hke : k = 4 := by omega
   subst hke
   have k1 : ¬ ((4 : Nat) : Int) < 4 := by omega
   have c0 := hI.t.cell (j := 0) rfl
   have cz := hI.t.lt
   obtain ⟨Y, hY⟩ : ∃ Y, Y = wr.alloc (.cells #[.int .i64 1, .string ⟨#[110, 110]⟩, .string ⟨#[110]⟩, .int .i64 1, .int .i64 1, .string ⟨#[116, 104]⟩, .string ⟨#[116]⟩, .int .i64 2] 34) := ⟨_, rfl⟩
   have hIY := hI.step (Y := Y) (by rw [hY]; exact (Below.refl _ wr).alloc (Nat.le_refl _) _)
   have hownY := hIY.own
   have HIY := hid hIY
   have hzY := hIY.t.lt
   have hcY : ∀ j u, ([.int .i64 1, .string ⟨#[110, 110]⟩, .string ⟨#[110]⟩, .int .i64 1, .int .i64 1, .string ⟨#[116, 104]⟩, .string ⟨#[116]⟩, .int .i64 2] : List Value)[j]? = some u → Y.cell? ((⟨wr.heap.size, 0, none⟩ : Addr).add j) = some u := by
    rw [hY]; exact cells_new rfl
   rw [hY] at hownY hcY hzY
   have HY := hid hY
   clear hI hIY hY
   go_wp2_with (at_builtin; refine wpList_append_own _ rfl _ _ 22 rfl (W.heap.size + 4) 34 i0 (.agg #[.int .i64 0, .string ⟨#[]⟩, .string ⟨#[]⟩, .int .i64 0]) 4 48 Tryz.underlying22 hi hz0 hz1 hz2 rfl (by decide) _ _ _ rfl hownY ⟨wr.heap.size, 0, none⟩ 2 2 [.int .i64 1, .string ⟨#[110, 110]⟩, .string ⟨#[110]⟩, .int .i64 1, .int .i64 1, .string ⟨#[116, 104]⟩, .string ⟨#[116]⟩, .int .i64 2] rfl rfl hcY (by simp [Value.oneCell']) (by unfold maxLen; omega) (by omega) (by omega) ?_; intro v' w8 ho8 hg8 _; rw [← HY.out] at hg8; obtain ⟨hI8, q1, q2, q3⟩ := HIY.out.app (m := 2) rfl hg8 ho8 rfl; obtain ⟨g, c, rfl, -⟩ := hI8.whole.tab; have HI8 := hid hI8; obtain ⟨y0, y1, y2, y3, y4, y5, yz⟩ := hI8.tcells; obtain ⟨x0, x1, x2, x3, x4, x5, f0, f1, f2, f3, f4, f5, xz⟩ := hI8.rcells; clear ho8 hg8 hI8)
   have hr0 := HI8.out.r
   obtain ⟨Z, hZ⟩ : ∃ Z, Z = w8.setCell ⟨W.heap.size + 3, 0, none⟩ (.slice (some ⟨g, 0, none⟩) 6 c) := ⟨_, rfl⟩
   have hr6 : Blk ((((((Z.setCell ⟨W.heap.size, 0, none⟩ (.slice (some ⟨g, 0, none⟩) 6 c)).setCell ⟨W.heap.size, 1, none⟩ (.slice (some ⟨W.heap.size + 1, 0, none⟩) 1 1)).setCell ⟨W.heap.size, 2, none⟩ (.slice (some ⟨W.heap.size + 2, 0, none⟩) 1 1)).setCell ⟨W.heap.size, 3, none⟩ (.int .i64 4)).setCell ⟨W.heap.size, 4, none⟩ (.int .i64 2)).setCell ⟨W.heap.size, 5, none⟩ (.int .i64 1)) W.heap.size 25 [.slice (some ⟨g, 0, none⟩) 6 c, .slice (some ⟨W.heap.size + 1, 0, none⟩) 1 1, .slice (some ⟨W.heap.size + 2, 0, none⟩) 1 1, .int .i64 4, .int .i64 2, .int .i64 1] := by
    rw [← hZ] at hr0
    exact (((((hr0.set 0 _).set 1 _).set 2 _).set 3 _).set 4 _).set 5 _
   refine bodyPost_ret (results_cell_row rfl _ _ W.heap.size 25 _ _ _ rfl (by rw [hZ] at hr6; exact hr6) Tryz.underlying25 rfl (by kernel_rfl)) rfl ?_
   have hF := ((((((HI8.out.whole.set (Nat.le_refl _) 0 (.slice (some ⟨g, 0, none⟩) 6 c)).set (Nat.le_refl _) 1 (.slice (some ⟨W.heap.size + 1, 0, none⟩) 1 1)).set (Nat.le_refl _) 2 (.slice (some ⟨W.heap.size + 2, 0, none⟩) 1 1)).set (Nat.le_refl _) 3 (.int .i64 4)).set (Nat.le_refl _) 4 (.int .i64 2)).set (Nat.le_refl _) 5 (.int .i64 1))
   obtain ⟨g', c', e', ht⟩ := hF.tab
   cases e'
   exact ⟨g, c, W.heap.size + 1, W.heap.size + 2, rfl, ht, hF.below⟩

end Go.Proofs.YtdchjacccmajcaaGreatDoor
