/-
  The statements' table, is, few; the head: the chapter's examples. Conditions: the library's tables.
-/
import Derived.Test.YthibphklchalkaaGreatDoorZAl12
namespace Al

def tab : Rw.Table := ⟨[⟨1, [97], [97], 0⟩, ⟨1, [110], [110], 0⟩, ⟨1, [110, 110], [110], 1⟩, ⟨3, [110], [110], 0⟩, ⟨3, [110], [110, 97], 2⟩], [], [], 0, 0, 0⟩
theorem bestA : Go.Proofs.YthibphklchalkaaGreatDoor.Al.bestOf tab 1 [97, 110, 97] 1 [97, 110, 97] = (⟨0, [0, 1, 0], [0, 1, 0], [97, 110, 97]⟩, 0) := by decide +kernel
theorem bestB : Go.Proofs.YthibphklchalkaaGreatDoor.Al.bestOf tab 1 [97, 110, 110, 97] 1 [97, 110, 97] = (⟨1, [0, 2, 0], [0, 1, 0], [97, 110, 97]⟩, 0) := by decide +kernel
theorem bestC : Go.Proofs.YthibphklchalkaaGreatDoor.Al.bestOf tab 1 [110, 97] 3 [110] = (⟨2, [1, 0], [4], [110, 97]⟩, 0) := by decide +kernel
theorem bestD : Go.Proofs.YthibphklchalkaaGreatDoor.Al.bestOf tab 1 [97] 3 [110] = (⟨0, [], [], []⟩, 11) := by decide +kernel
theorem checkC : checkOf tab 1 [110, 97] 3 [110] ⟨2, [1, 0], [4], [110, 97]⟩ = true := by decide +kernel
theorem checkD : checkOf tab 1 [110, 97] 3 [110, 110] ⟨2, [1, 0], [4], [110, 97]⟩ = false := by decide +kernel

end Al
namespace Go.Proofs.YthibphklchalkaaGreatDoor
open Go.RowKit Go.Lib Go.Maps

theorem flat_at {α : Type} {cells : α → List Value} {sz : Nat} : ∀ (l : List α) (i : Nat) (x : α), (∀ x ∈ l, (cells x).length = sz) → l[i]? = some x → ∀ j u, (cells x)[j]? = some u → (l.flatMap cells)[i * sz + j]? = some u
  | [], i, x, _, hx => by simp at hx
  | y :: l, 0, x, hc, hx => by
    intro j u hu
    simp at hx; subst hx
    rw [List.flatMap_cons, Nat.zero_mul, Nat.zero_add, List.getElem?_append_left (List.getElem?_eq_some_iff.1 hu).1]; exact hu
  | y :: l, i + 1, x, hc, hx => by
    intro j u hu
    have hy := hc y List.mem_cons_self
    rw [List.flatMap_cons, List.getElem?_append_right (by rw [hy, Nat.succ_mul]; omega), hy, show (i + 1) * sz + j - sz = i * sz + j by rw [Nat.succ_mul]; omega]
    exact flat_at l i x (fun z hz => hc z (List.mem_cons_of_mem _ hz)) (by simpa using hx) j u hu

/-- a block that is known whole reads as a list -/
theorem SlOf.block {α : Type} {w : World} {g sz n : Nat} {cells : α → List Value} {l : List α} {cs : Array Value} {ty : TypeId} (h : w.heap[g]? = some (.cells cs ty (0, 0))) (hcs : cs.toList = l.flatMap cells) (hc : ∀ x ∈ l, (cells x).length = sz) (hn : n = l.length) (hm : n ≤ maxLen) :
    SlOf w (.slice (some ⟨g, 0, none⟩) n n) sz cells l := by
  subst hn
  refine ⟨_, _, rfl, Nat.le_refl _, hm, fun _ => ⟨g, 0, rfl, (Array.getElem?_eq_some_iff.1 h).1, fun i x hx j v hv => ?_⟩⟩
  have := flat_at l i x hc hx j v hv
  rw [← hcs] at this
  simp only [World.cell?, h, Nat.zero_add]
  simpa using this

theorem BestPost.get {r : Al.D × Int} {W W' : World} {e : Ending} (h : BestPost r W e W') : ∃ a n c a' n' c', e = .returned (.tuple #[.agg #[.int .i64 r.1.cost, .slice a n c, .slice a' n' c', .string (bs r.1.form)], .int .i64 r.2]) ∧
    DerAt W' r.1 [.int .i64 r.1.cost, .slice a n c, .slice a' n' c', .string (bs r.1.form)] ∧ Below W.heap.size W W' := by
  obtain ⟨v, rfl, ⟨lv, rv, rfl, h1, h2⟩, hb⟩ := h
  have h1' := h1
  have h2' := h2
  obtain ⟨a, c, rfl, -⟩ := h1'
  obtain ⟨a', c', rfl, -⟩ := h2'
  exact ⟨_, _, _, _, _, _, rfl, ⟨_, _, rfl, h1, h2⟩, hb⟩

set_option maxRecDepth 100000 in
set_option maxHeartbeats 2000000 in
theorem table_any (W : World) : Calls Tryz.prog 14 #[] W fun e W' => ∃ a, e = .returned (.agg #[.slice (some a) 5 5, .slice none 0 0, .slice none 0 0, .int .i64 0, .int .i64 0, .int .i64 0]) ∧
    TableAt W' Al.tab (.agg #[.slice (some a) 5 5, .slice none 0 0, .slice none 0 0, .int .i64 0, .int .i64 0, .int .i64 0]) ∧ Below W.heap.size W W' := by
  go_enter Tryz.func14, Tryz.ntmps14
  go_wp2
  refine bodyPost_ret (v := .agg #[.slice (some ⟨W.heap.size + 1, 0, none⟩) 5 5, .slice none 0 0, .slice none 0 0, .int .i64 0, .int .i64 0, .int .i64 0]) (by simp [results, Tryz.results14, go_sem]) rfl ⟨_, rfl, ?_, ((Below.refl _ W).alloc (Nat.le_refl _) _).alloc (by simp) _⟩
  refine ⟨⟨_, _, _, rfl, SlOf.block (cs := #[.int .i64 1, .string ⟨#[97]⟩, .string ⟨#[97]⟩, .int .i64 0, .int .i64 1, .string ⟨#[110]⟩, .string ⟨#[110]⟩, .int .i64 0, .int .i64 1, .string ⟨#[110, 110]⟩, .string ⟨#[110]⟩, .int .i64 1, .int .i64 3, .string ⟨#[110]⟩, .string ⟨#[110]⟩, .int .i64 0, .int .i64 3, .string ⟨#[110]⟩, .string ⟨#[110, 97]⟩, .int .i64 2]) (ty := 72) ?_ rfl (fun x _ => rfl) rfl (by decide), SlOf.nil _ _ _, SlOf.nil _ _ _⟩, ?_, ?_, ?_, by decide⟩
  · have := World.alloc_heap_new (W.alloc (.cells #[.slice (some ⟨W.heap.size + 1, 0, none⟩) 5 5, .slice none 0 0, .slice none 0 0, .int .i64 0, .int .i64 0, .int .i64 0] 25)) (.cells #[.int .i64 1, .string ⟨#[97]⟩, .string ⟨#[97]⟩, .int .i64 0, .int .i64 1, .string ⟨#[110]⟩, .string ⟨#[110]⟩, .int .i64 0, .int .i64 1, .string ⟨#[110, 110]⟩, .string ⟨#[110]⟩, .int .i64 1, .int .i64 3, .string ⟨#[110]⟩, .string ⟨#[110]⟩, .int .i64 0, .int .i64 3, .string ⟨#[110]⟩, .string ⟨#[110, 97]⟩, .int .i64 2] 72)
    rwa [World.size_alloc] at this
  · intro r hr
    have : ∀ r ∈ Al.tab.rules, ((Lit.int .i64 r.script).wf && decide (r.from_.length ≤ 1000) && decide (r.to_.length ≤ 1000)) = true := by decide +kernel
    have := this r hr
    simp only [Bool.and_eq_true, decide_eq_true_eq] at this
    exact ⟨this.1.1, this.1.2, this.2⟩
  · intro d hd; cases hd
  · intro d hd; cases hd

set_option maxRecDepth 100000 in
set_option maxHeartbeats 2000000 in
theorem fewL_any (t : Rw.Table) (tv wv : Value) (ws : List (List UInt8)) (W : World) (ht : TableRaw W t tv) (hw : SlOf W wv 1 strC ws) (hwl : ∀ x ∈ ws, x.length ≤ maxLen) : Calls Tryz.prog 7 #[tv, wv] W (Gives (.bool (Al.fewB t ws)) W) := by
  have hb : Below W.heap.size W (W.alloc (.cells #[] 0)) := (Below.refl _ W).alloc (Nat.le_refl _) _
  clear hb
  have HT := hid ht
  obtain ⟨⟨vr, vd, ve, rfl, ⟨ar, cr, rfl, r1, r2, r3⟩, ⟨ad, cd, rfl, d1, d2, d3⟩, ⟨ae, ce, rfl, e1, e2, e3⟩⟩, -, -, -⟩ := ht
  obtain ⟨W1, hW1⟩ : ∃ W1, W1 = W.alloc (.cells #[.slice ar t.rules.length cr, .slice ad t.drops.length cd, .slice ae t.ends.length ce, .int .i64 t.drop, .int .i64 t.order, .int .i64 t.initial] 25) := ⟨_, rfl⟩
  have hb1 : Below W.heap.size W W1 := by rw [hW1]; exact (Below.refl _ W).alloc (Nat.le_refl _) _
  have HF := hid (few_any t _ wv ws W1 (HT.out.below hb1) (hw.below hb1) hwl)
  have HB := hid hb1
  clear hw hwl hb1 r3 d3 e3 r1 r2 d1 d2 e1 e2
  go_enter Tryz.func7, Tryz.ntmps7
  go_wp2_with fail
  rw [← hW1]
  refine (HF.out).mono ?_
  rintro e w2 ⟨rfl, hb2⟩
  have HB2 := hid (HB.out.trans (hb2.mono HB.out.size))
  clear hb2
  go_wp2_with fail
  go_ret
  exact ⟨rfl, HB2.out⟩

set_option maxRecDepth 100000 in
set_option maxHeartbeats 2000000 in
theorem is_any' (d d' : Al.D) (v : List Value) (lv rv : Value) (W : World) (h : DerAt W d v) (h1 : SlOf W lv 1 intC d'.left) (h2 : SlOf W rv 1 intC d'.right) : Calls Tryz.prog 15 #[.agg v.toArray, .int .i64 d'.cost, lv, rv, .string (bs d'.form)] W (Gives (.bool (decide (d = d'))) W) := by
  have HD := hid h
  have H1 := hid h1
  have H2 := hid h2
  obtain ⟨lw, rw', rfl, g1, g2⟩ := h
  obtain ⟨a1, c1, rfl, -⟩ := g1
  obtain ⟨a2, c2, rfl, -⟩ := g2
  obtain ⟨b1, e1, rfl, -⟩ := h1
  obtain ⟨b2, e2, rfl, -⟩ := h2
  obtain ⟨W1, hW1⟩ : ∃ W1, W1 = W.alloc (.cells #[.int .i64 d.cost, .slice a1 d.left.length c1, .slice a2 d.right.length c2, .string (bs d.form)] 28) := ⟨_, rfl⟩
  have hb1 : Below W.heap.size W W1 := by rw [hW1]; exact (Below.refl _ W).alloc (Nat.le_refl _) _
  have HF := hid (same_any d d' _ [.int .i64 d'.cost, .slice b1 d'.left.length e1, .slice b2 d'.right.length e2, .string (bs d'.form)] W1 (HD.out.below hb1) ⟨_, _, rfl, H1.out.below hb1, H2.out.below hb1⟩)
  have HB := hid hb1
  clear hb1
  go_enter Tryz.func15, Tryz.ntmps15
  go_wp2_with fail
  rw [← hW1]
  refine (HF.out).mono ?_
  rintro e w2 ⟨rfl, hb2⟩
  have HB2 := hid (HB.out.trans (hb2.mono HB.out.size))
  clear hb2
  go_wp2_with fail
  go_ret
  exact ⟨rfl, HB2.out⟩


theorem is_mk (d d' : Al.D) (v : List Value) (W : World) (h : DerAt W d v) (cl cm : Array Value) (hcl : cl.toList = d'.left.flatMap intC) (hcm : cm.toList = d'.right.flatMap intC) (n m : Nat) (hn : n = d'.left.length) (hm : m = d'.right.length) (b1 : n ≤ maxLen) (b2 : m ≤ maxLen) :
    Calls Tryz.prog 15 #[.agg v.toArray, .int .i64 d'.cost, .slice (some ⟨W.heap.size, 0, none⟩) n n, .slice (some ⟨W.heap.size + 1, 0, none⟩) m m, .string (bs d'.form)] ((W.alloc (.cells cl 3)).alloc (.cells cm 3)) (Gives (.bool (decide (d = d'))) ((W.alloc (.cells cl 3)).alloc (.cells cm 3))) := by
  have hb : Below W.heap.size W ((W.alloc (.cells cl 3)).alloc (.cells cm 3)) := ((Below.refl _ W).alloc (Nat.le_refl _) _).alloc (by simp) _
  have e1 : ((W.alloc (.cells cl 3)).alloc (.cells cm 3)).heap[W.heap.size]? = some (.cells cl 3 (0, 0)) := (Below.heap_alloc _ _ _ (by simp)).trans (World.alloc_heap_new W _)
  have e2 : ((W.alloc (.cells cl 3)).alloc (.cells cm 3)).heap[W.heap.size + 1]? = some (.cells cm 3 (0, 0)) := by
    have := World.alloc_heap_new (W.alloc (.cells cl 3)) (.cells cm 3)
    rwa [World.size_alloc] at this
  exact is_any' d d' v _ _ _ (h.below hb) (SlOf.block e1 hcl (fun _ _ => rfl) hn b1) (SlOf.block e2 hcm (fun _ _ => rfl) hm b2)

/-- a derivation in a block of its own -/
structure DerBlk (W : World) (B : Nat) (d : Al.D) (a : Option Addr) (n c : Nat) (a' : Option Addr) (n' c' : Nat) : Prop where
  blk : W.heap[B]? = some (.cells #[.int .i64 d.cost, .slice a n c, .slice a' n' c', .string (bs d.form)] 28 (0, 0))
  der : DerAt W d [.int .i64 d.cost, .slice a n c, .slice a' n' c', .string (bs d.form)]
section
variable {W W' : World} {B : Nat} {d : Al.D} {a a' : Option Addr} {n c n' c' : Nat}
theorem DerBlk.below (h : DerBlk W B d a n c a' n' c') (hb : Below W.heap.size W W') : DerBlk W' B d a n c a' n' c' :=
  ⟨(hb.block _ (Array.getElem?_eq_some_iff.1 h.blk).1).trans h.blk, h.der.below hb⟩
theorem DerBlk.lt (h : DerBlk W B d a n c a' n' c') : B < W.heap.size := (Array.getElem?_eq_some_iff.1 h.blk).1
theorem DerBlk.c0 (h : DerBlk W B d a n c a' n' c') : W.cell? ⟨B, 0, none⟩ = some (.int .i64 d.cost) := by simp [World.cell?, h.blk]
theorem DerBlk.c1 (h : DerBlk W B d a n c a' n' c') : W.cell? ⟨B, 1, none⟩ = some (.slice a n c) := by simp [World.cell?, h.blk]
theorem DerBlk.c2 (h : DerBlk W B d a n c a' n' c') : W.cell? ⟨B, 2, none⟩ = some (.slice a' n' c') := by simp [World.cell?, h.blk]
theorem DerBlk.c3 (h : DerBlk W B d a n c a' n' c') : W.cell? ⟨B, 3, none⟩ = some (.string (bs d.form)) := by simp [World.cell?, h.blk]
theorem DerBlk.new (h : DerAt W d [.int .i64 d.cost, .slice a n c, .slice a' n' c', .string (bs d.form)]) : DerBlk (W.alloc (.cells #[.int .i64 d.cost, .slice a n c, .slice a' n' c', .string (bs d.form)] 28)) W.heap.size d a n c a' n' c' :=
  ⟨World.alloc_heap_new W _, h.below ((Below.refl _ W).alloc (Nat.le_refl _) _)⟩
end

/-- a table in a block of its own -/
structure TabBlk (W : World) (B : Nat) (a : Addr) : Prop where
  blk : W.heap[B]? = some (.cells #[.slice (some a) 5 5, .slice none 0 0, .slice none 0 0, .int .i64 0, .int .i64 0, .int .i64 0] 25 (0, 0))
  tab : TableAt W Al.tab (.agg #[.slice (some a) 5 5, .slice none 0 0, .slice none 0 0, .int .i64 0, .int .i64 0, .int .i64 0])
  tabs : Tabs W
section
variable {W W' : World} {B : Nat} {a : Addr}
theorem TabBlk.below (h : TabBlk W B a) (hb : Below W.heap.size W W') : TabBlk W' B a := ⟨(hb.block _ (Array.getElem?_eq_some_iff.1 h.blk).1).trans h.blk, h.tab.below hb, h.tabs.below hb⟩
theorem TabBlk.lt (h : TabBlk W B a) : B < W.heap.size := (Array.getElem?_eq_some_iff.1 h.blk).1
theorem TabBlk.cells (h : TabBlk W B a) : W.cell? ⟨B, 0, none⟩ = some (.slice (some a) 5 5) ∧ W.cell? ⟨B, 1, none⟩ = some (.slice none 0 0) ∧ W.cell? ⟨B, 2, none⟩ = some (.slice none 0 0) ∧ W.cell? ⟨B, 3, none⟩ = some (.int .i64 0) ∧
    W.cell? ⟨B, 4, none⟩ = some (.int .i64 0) ∧ W.cell? ⟨B, 5, none⟩ = some (.int .i64 0) := by
  refine ⟨?_, ?_, ?_, ?_, ?_, ?_⟩ <;> simp [World.cell?, h.blk]
end

set_option maxRecDepth 100000 in
set_option maxHeartbeats 8000000 in
theorem head_true (W : World) (hT : Tabs W) : Calls Tryz.prog 6 #[] W (Gives (.bool true) W) := by
  have HT := hid hT
  clear hT
  go_enter Tryz.func6, Tryz.ntmps6
  go_wp2_with fail
  refine (table_any _).mono ?_
  rintro e W1 ⟨a, rfl, hta, hb1⟩
  obtain ⟨W2, hW2⟩ : ∃ W2, W2 = W1.alloc (.cells #[.slice (some a) 5 5, .slice none 0 0, .slice none 0 0, .int .i64 0, .int .i64 0, .int .i64 0] 25) := ⟨_, rfl⟩
  have hb2 : Below W1.heap.size W1 W2 := by rw [hW2]; exact (Below.refl _ W1).alloc (Nat.le_refl _) _
  have hb := Below.step hb1 hb2
  have T2 := hid (show TabBlk W2 W1.heap.size a from ⟨by rw [hW2]; exact World.alloc_heap_new W1 _, hta.below hb2, HT.out.below hb⟩)
  have B2 := hid hb
  have CA := hid (best_any Al.tab _ 1 1 ⟨#[97, 110, 97]⟩ ⟨#[97, 110, 97]⟩ W2 T2.out.tab T2.out.tabs (by decide) (by decide))
  rw [show (⟨#[97, 110, 97]⟩ : ByteArray).data.toList = [97, 110, 97] from rfl, Al.bestA] at CA
  clear hb1 hta hb2 hb
  go_wp2_with fail
  rw [← hW2]
  clear hW2
  refine (CA.out).mono ?_
  rintro e W3 h3
  obtain ⟨x1, m1, k1, x2, m2, k2, rfl, hda, hb3⟩ := h3.get
  obtain ⟨W4, hW4⟩ : ∃ W4, W4 = W3.alloc (.cells #[.int .i64 0, .slice x1 m1 k1, .slice x2 m2 k2, .string (bs [97, 110, 97])] 28) := ⟨_, rfl⟩
  have hb4 : Below W3.heap.size W3 W4 := by rw [hW4]; exact (Below.refl _ W3).alloc (Nat.le_refl _) _
  have hb24 := Below.step hb3 hb4
  have T4 := hid (T2.out.below hb24)
  have B4 := hid (B2.out.trans (hb24.mono B2.out.size))
  have D4 := hid (show DerBlk W4 W3.heap.size ⟨0, [0, 1, 0], [0, 1, 0], [97, 110, 97]⟩ x1 m1 k1 x2 m2 k2 by rw [hW4]; exact DerBlk.new hda)
  have CB := hid (best_any Al.tab _ 1 1 ⟨#[97, 110, 110, 97]⟩ ⟨#[97, 110, 97]⟩ W4 T4.out.tab T4.out.tabs (by decide) (by decide))
  rw [show (⟨#[97, 110, 97]⟩ : ByteArray).data.toList = [97, 110, 97] from rfl, show (⟨#[97, 110, 110, 97]⟩ : ByteArray).data.toList = [97, 110, 110, 97] from rfl, Al.bestB] at CB
  obtain ⟨t0, t1, t2, t3, t4, t5⟩ := (T2.out.below hb3).cells
  have tl := (T2.out.below hb3).lt
  clear hb3 hb4 hb24 hda h3
  go_wp2_with fail
  rw [← hW4]
  clear hW4
  refine (CB.out).mono ?_
  rintro e W5 h5
  obtain ⟨y1, p1, q1, y2, p2, q2, rfl, hdb, hb5⟩ := h5.get
  obtain ⟨W6, hW6⟩ : ∃ W6, W6 = W5.alloc (.cells #[.int .i64 1, .slice y1 p1 q1, .slice y2 p2 q2, .string (bs [97, 110, 97])] 28) := ⟨_, rfl⟩
  have hb6 : Below W5.heap.size W5 W6 := by rw [hW6]; exact (Below.refl _ W5).alloc (Nat.le_refl _) _
  have hb46 := Below.step hb5 hb6
  have T6 := hid (T4.out.below hb46)
  have B6 := hid (B4.out.trans (hb46.mono B4.out.size))
  have D6 := hid (D4.out.below hb46)
  have E6 := hid (show DerBlk W6 W5.heap.size ⟨1, [0, 2, 0], [0, 1, 0], [97, 110, 97]⟩ y1 p1 q1 y2 p2 q2 by rw [hW6]; exact DerBlk.new hdb)
  have CC := hid (best_any Al.tab _ 1 3 ⟨#[110, 97]⟩ ⟨#[110]⟩ W6 T6.out.tab T6.out.tabs (by decide) (by decide))
  rw [show (⟨#[110, 97]⟩ : ByteArray).data.toList = [110, 97] from rfl, show (⟨#[110]⟩ : ByteArray).data.toList = [110] from rfl, Al.bestC] at CC
  clear t0 t1 t2 t3 t4 t5 tl
  obtain ⟨t0, t1, t2, t3, t4, t5⟩ := (T4.out.below hb5).cells
  have tl := (T4.out.below hb5).lt
  clear hb5 hb6 hb46 hdb h5
  go_wp2_with fail
  rw [← hW6]
  clear hW6
  refine (CC.out).mono ?_
  rintro e W7 h7
  obtain ⟨z1, r1, s1, z2, r2, s2, rfl, hdc, hb7⟩ := h7.get
  obtain ⟨W8, hW8⟩ : ∃ W8, W8 = W7.alloc (.cells #[.int .i64 2, .slice z1 r1 s1, .slice z2 r2 s2, .string (bs [110, 97])] 28) := ⟨_, rfl⟩
  have hb8 : Below W7.heap.size W7 W8 := by rw [hW8]; exact (Below.refl _ W7).alloc (Nat.le_refl _) _
  have hb68 := Below.step hb7 hb8
  have T8 := hid (T6.out.below hb68)
  have B8 := hid (B6.out.trans (hb68.mono B6.out.size))
  have D8 := hid (D6.out.below hb68)
  have E8 := hid (E6.out.below hb68)
  have F8 := hid (show DerBlk W8 W7.heap.size ⟨2, [1, 0], [4], [110, 97]⟩ z1 r1 s1 z2 r2 s2 by rw [hW8]; exact DerBlk.new hdc)
  have CD := hid (best_any Al.tab _ 1 3 ⟨#[97]⟩ ⟨#[110]⟩ W8 T8.out.tab T8.out.tabs (by decide) (by decide))
  rw [show (⟨#[97]⟩ : ByteArray).data.toList = [97] from rfl, show (⟨#[110]⟩ : ByteArray).data.toList = [110] from rfl, Al.bestD] at CD
  clear t0 t1 t2 t3 t4 t5 tl
  obtain ⟨t0, t1, t2, t3, t4, t5⟩ := (T6.out.below hb7).cells
  have tl := (T6.out.below hb7).lt
  clear hb7 hb8 hb68 hdc h7
  go_wp2_with fail
  rw [← hW8]
  clear hW8
  refine (CD.out).mono ?_
  rintro e W9 h9
  obtain ⟨u1, l1, o1, u2, l2, o2, rfl, hdd, hb9⟩ := h9.get
  clear t0 t1 t2 t3 t4 t5 tl
  obtain ⟨W10, hW10⟩ : ∃ W10, W10 = W9.alloc (.cells #[.int .i64 0, .slice u1 l1 o1, .slice u2 l2 o2, .string (bs [])] 28) := ⟨_, rfl⟩
  have hb10 : Below W9.heap.size W9 W10 := by rw [hW10]; exact (Below.refl _ W9).alloc (Nat.le_refl _) _
  have hz10 : W10.heap.size = W9.heap.size + 1 := by rw [hW10, World.size_alloc]
  have hb810 := Below.step hb9 hb10
  have T10 := hid (T8.out.below hb810)
  have B10 := hid (B8.out.trans (hb810.mono B8.out.size))
  have D10 := hid (D8.out.below hb810)
  have E10 := hid (E8.out.below hb810)
  have F10 := hid (F8.out.below hb810)
  have D9 := D8.out.below hb9
  have d0 := D9.c0
  have d1 := D9.c1
  have d2 := D9.c2
  have d3 := D9.c3
  have dl := D9.lt
  have CI := hid (is_mk ⟨0, [0, 1, 0], [0, 1, 0], [97, 110, 97]⟩ ⟨0, [0, 1, 0], [0, 1, 0], [97, 110, 97]⟩ _ W10 D10.out.der #[.int .i64 0, .int .i64 1, .int .i64 0] #[.int .i64 0, .int .i64 1, .int .i64 0] rfl rfl 3 3 rfl rfl (by decide) (by decide))
  rw [decide_eq_true (rfl : (⟨0, [0, 1, 0], [0, 1, 0], [97, 110, 97]⟩ : Al.D) = _)] at CI
  have bI := hid (show Below W10.heap.size W10 ((W10.alloc (.cells #[.int .i64 0, .int .i64 1, .int .i64 0] 3)).alloc (.cells #[.int .i64 0, .int .i64 1, .int .i64 0] 3)) from ((Below.refl _ W10).alloc (Nat.le_refl _) _).alloc (by simp) _)
  rw [hz10, hW10] at CI
  have HZ := hid (And.intro hz10 hW10)
  clear D9 hb9 hb10 hb810 hdd h9 hz10
  go_wp2_with fail
  refine (CI.out).mono ?_
  rintro e W12 ⟨rfl, hb12⟩
  rw [← HZ.out.2] at hb12
  have hb1012 := Below.step bI.out hb12
  have T12 := hid (T10.out.below hb1012)
  have B12 := hid (B10.out.trans (hb1012.mono B10.out.size))
  have E12 := hid (E10.out.below hb1012)
  have F12 := hid (F10.out.below hb1012)
  clear hb12 hb1012 d0 d1 d2 d3 dl
  have e0 := E12.out.c0
  have e1 := E12.out.c1
  have e2 := E12.out.c2
  have e3 := E12.out.c3
  have el := E12.out.lt
  have CJ := hid (is_mk ⟨1, [0, 2, 0], [0, 1, 0], [97, 110, 97]⟩ ⟨1, [0, 2, 0], [0, 1, 0], [97, 110, 97]⟩ _ W12 E12.out.der #[.int .i64 0, .int .i64 2, .int .i64 0] #[.int .i64 0, .int .i64 1, .int .i64 0] rfl rfl 3 3 rfl rfl (by decide) (by decide))
  rw [decide_eq_true (rfl : (⟨1, [0, 2, 0], [0, 1, 0], [97, 110, 97]⟩ : Al.D) = _)] at CJ
  have bJ := hid (show Below W12.heap.size W12 ((W12.alloc (.cells #[.int .i64 0, .int .i64 2, .int .i64 0] 3)).alloc (.cells #[.int .i64 0, .int .i64 1, .int .i64 0] 3)) from ((Below.refl _ W12).alloc (Nat.le_refl _) _).alloc (by simp) _)
  go_wp2_with fail
  refine (CJ.out).mono ?_
  rintro e W14 ⟨rfl, hb14⟩
  have hb1214 := Below.step bJ.out hb14
  have T14 := hid (T12.out.below hb1214)
  have B14 := hid (B12.out.trans (hb1214.mono B12.out.size))
  have F14 := hid (F12.out.below hb1214)
  clear hb14 hb1214 e0 e1 e2 e3 el
  have f0 := F14.out.c0
  have f1 := F14.out.c1
  have f2 := F14.out.c2
  have f3 := F14.out.c3
  have fl := F14.out.lt
  have CK := hid (is_mk ⟨2, [1, 0], [4], [110, 97]⟩ ⟨2, [1, 0], [4], [110, 97]⟩ _ W14 F14.out.der #[.int .i64 1, .int .i64 0] #[.int .i64 4] rfl rfl 2 1 rfl rfl (by decide) (by decide))
  rw [decide_eq_true (rfl : (⟨2, [1, 0], [4], [110, 97]⟩ : Al.D) = _)] at CK
  have bK := hid (show Below W14.heap.size W14 ((W14.alloc (.cells #[.int .i64 1, .int .i64 0] 3)).alloc (.cells #[.int .i64 4] 3)) from ((Below.refl _ W14).alloc (Nat.le_refl _) _).alloc (by simp) _)
  go_wp2_with fail
  refine (CK.out).mono ?_
  rintro e W16 ⟨rfl, hb16⟩
  have hb1416 := Below.step bK.out hb16
  have T16 := hid (T14.out.below hb1416)
  have B16 := hid (B14.out.trans (hb1416.mono B14.out.size))
  have F16 := hid (F14.out.below hb1416)
  clear hb16 hb1416 f0 f1 f2 f3 fl
  have f0 := F16.out.c0
  have f1 := F16.out.c1
  have f2 := F16.out.c2
  have f3 := F16.out.c3
  have fl := F16.out.lt
  obtain ⟨t0, t1, t2, t3, t4, t5⟩ := T16.out.cells
  have tl := T16.out.lt
  have CL := hid (checkD_any Al.tab _ 1 3 ⟨#[110, 97]⟩ ⟨#[110]⟩ ⟨2, [1, 0], [4], [110, 97]⟩ _ W16 T16.out.tab T16.out.tabs (by decide) (by decide) F16.out.der (by decide) (by decide))
  rw [show (⟨#[110, 97]⟩ : ByteArray).data.toList = [110, 97] from rfl, show (⟨#[110]⟩ : ByteArray).data.toList = [110] from rfl, Al.checkC] at CL
  go_wp2_with fail
  refine (CL.out).mono ?_
  rintro e W17 ⟨rfl, hb17⟩
  have T17 := hid (T16.out.below hb17)
  have B17 := hid (B16.out.trans (hb17.mono B16.out.size))
  have F17 := hid (F16.out.below hb17)
  clear hb17 f0 f1 f2 f3 fl t0 t1 t2 t3 t4 t5 tl
  have f0 := F17.out.c0
  have f1 := F17.out.c1
  have f2 := F17.out.c2
  have f3 := F17.out.c3
  have fl := F17.out.lt
  obtain ⟨t0, t1, t2, t3, t4, t5⟩ := T17.out.cells
  have tl := T17.out.lt
  have CM := hid (checkD_any Al.tab _ 1 3 ⟨#[110, 97]⟩ ⟨#[110, 110]⟩ ⟨2, [1, 0], [4], [110, 97]⟩ _ W17 T17.out.tab T17.out.tabs (by decide) (by decide) F17.out.der (by decide) (by decide))
  rw [show (⟨#[110, 97]⟩ : ByteArray).data.toList = [110, 97] from rfl, show (⟨#[110, 110]⟩ : ByteArray).data.toList = [110, 110] from rfl, Al.checkD] at CM
  go_wp2_with fail
  refine (CM.out).mono ?_
  rintro e W18 ⟨rfl, hb18⟩
  have B18 := hid (B17.out.trans (hb18.mono B17.out.size))
  clear hb18
  go_wp2_with fail
  go_ret
  exact ⟨rfl, B18.out⟩

end Go.Proofs.YthibphklchalkaaGreatDoor
