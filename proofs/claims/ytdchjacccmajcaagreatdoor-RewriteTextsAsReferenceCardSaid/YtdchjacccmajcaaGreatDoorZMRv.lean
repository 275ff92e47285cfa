/-
 Several texts in one: ZRv1, ZRv2. Conditions: as each law says.
-/
import Derived.Test.YtdchjacccmajcaaGreatDoorZRv0
namespace Go.Proofs.YtdchjacccmajcaaGreatDoor
open Go.RowKit Go.Maps Go.Lib

variable {B : Nat}

def TakeW (B : Nat) (w : World) (p e : Nat) (r : Except Fa.Fail (Fa.T × List Fa.T)) (en : Ending) (w' : World) : Prop :=
 match r with
 | .ok (t, l) => en = .returned (tkvP t) ∧ PsW B w' p l e t.1 ∧ Tch (fun b => b = p) w w'
 | .error x => ThrowsP w p x en w'

theorem row_tail {w : World} {g o : Nat} {t : Fa.T} {r : List Fa.T} (h : RowOf w g o 4 tkcP (t :: r)) : RowOf w g (o + 4) 4 tkcP r :=
 ⟨h.1, fun i x hx j v hv => by
  have := h.2 (i + 1) x (by simpa using hx) j v hv
  rwa [show o + (i + 1) * 4 + j = o + 4 + i * 4 + j by omega] at this⟩
theorem take_outP {w W W' : World} {p e : Nat} {t : Fa.T} {r : List Fa.T} {ts' ts0 : Value} (hpz : p < w.heap.size) (hBp : B < p) (hT : Tch (fun b => b = p) w W) (hp : W.heap[p]? = some (.cells #[ts0, .int .i64 e, .int .i64 t.1] 113 (0, 0)))
  (hz : W.heap[w.heap.size]? = some (.cells #[.int .i64 0, .int .i64 0, .int .i64 0, .string ⟨#[]⟩] 116 (0, 0))) (hs : SlIn w ts' (fun b => B < b ∧ b < p) 4 tkcP r)
  (hW : W' = ((((W.setCell ⟨p, 0, none⟩ ts').setCell ⟨w.heap.size, 0, none⟩ (.int .i64 t.2.kind)).setCell ⟨w.heap.size, 1, none⟩ (.int .i64 t.1)).setCell ⟨w.heap.size, 2, none⟩ (.int .i64 t.2.n)).setCell ⟨w.heap.size, 3, none⟩ (.string (bs t.2.text))) :
  W'.heap[w.heap.size]? = some (.cells #[.int .i64 t.2.kind, .int .i64 t.1, .int .i64 t.2.n, .string (bs t.2.text)] 116 (0, 0)) ∧ PsW B W' p r e t.1 ∧ Tch (fun b => b = p) w W' := by
 have hne : p ≠ w.heap.size := by omega
 have hT' : Tch (fun b => b = p) w W' := by
  rw [hW]
  exact ((((hT.setCell (a := ⟨p, 0, none⟩) (.inl rfl) _).setCell (a := ⟨w.heap.size, 0, none⟩) (.inr (Nat.le_refl _)) _).setCell (a := ⟨w.heap.size, 1, none⟩) (.inr (Nat.le_refl _)) _).setCell (a := ⟨w.heap.size, 2, none⟩) (.inr (Nat.le_refl _)) _).setCell (a := ⟨w.heap.size, 3, none⟩) (.inr (Nat.le_refl _)) _
 refine ⟨?_, ⟨ts', hs.tch hT' fun b hb e => by omega, ?_, hBp⟩, hT'⟩
 ·have h0 : (W.setCell ⟨p, 0, none⟩ ts').heap[w.heap.size]? = some (.cells #[.int .i64 0, .int .i64 0, .int .i64 0, .string ⟨#[]⟩] 116 (0, 0)) := (Below.heap_setCell _ _ _ _ (by show w.heap.size ≠ p; omega)).trans hz
  rw [hW]
  exact blk_setP (blk_setP (blk_setP (blk_setP h0 0 _) 1 _) 2 _) 3 _
 ·have h4 := blk_setP hp 0 ts'
  rw [hW, Below.heap_setCell _ _ _ _ (by show p ≠ w.heap.size; omega), Below.heap_setCell _ _ _ _ (by show p ≠ w.heap.size; omega), Below.heap_setCell _ _ _ _ (by show p ≠ w.heap.size; omega), Below.heap_setCell _ _ _ _ (by show p ≠ w.heap.size; omega), h4]
  rfl

set_option maxRecDepth 100000 in
set_option maxHeartbeats 4000000 in
theorem take_any10 (kd : Nat) (x : List UInt8) (w : World) (p : Nat) (l : List Fa.T) (e a : Nat) (h : PsW B w p l e a) (hl : l.length ≤ 5000) :
  Calls Tryz.prog 93 #[.pointer (some ⟨p, 0, none⟩), .int .i64 kd, .string (bs x)] w (TakeW B w p e (Fa.take kd x e l)) := by
 have HP := hid h
 obtain ⟨ts, h1, h2, hBp⟩ := h
 obtain ⟨va, cap, rfl, q1, q2, q3⟩ := h1
 have HB := hid h2
 have hpz : p < w.heap.size := (Array.getElem?_eq_some_iff.1 h2).1
 have c0 : w.cell? ⟨p, 0, none⟩ = some (.slice va l.length cap) := by simp [World.cell?, h2]
 have c1 : w.cell? ⟨p, 1, none⟩ = some (.int .i64 e) := by simp [World.cell?, h2]
 obtain ⟨W1, hW1⟩ : ∃ W1, W1 = w.alloc (.cells #[.int .i64 0, .int .i64 0, .int .i64 0, .string ⟨#[]⟩] 116) := ⟨_, rfl⟩
 have hb1 : Below w.heap.size w W1 := by rw [hW1]; exact (Below.refl _ w).alloc (Nat.le_refl _) _
 have HB1 := hid hb1
 have HS1 := hid (show W1.heap[w.heap.size]? = some (.cells #[.int .i64 0, .int .i64 0, .int .i64 0, .string ⟨#[]⟩] 116 (0, 0)) by rw [hW1]; exact alloc_new w _)
 have d0 := (hb1.cell (p := ⟨p, 0, none⟩) hpz).trans c0
 have d1 := (hb1.cell (p := ⟨p, 1, none⟩) hpz).trans c1
 have hpz1 := Nat.lt_of_lt_of_le hpz hb1.size
 clear h2 hb1
 cases l with
 | nil =>
  have HE := hid (show Fa.take kd x e [] = .error (6, e) from rfl)
  have HN := hid (need_no 6 e W1.drew)
  simp only [List.length_nil] at c0 d0 q1
  clear q3
  go_enter Tryz.func93, Tryz.ntmps93
  go_upto_region 1 with (fail)
  rw [← hW1]
  clear hW1
  refine wp_heldS (S := StillAt W1) (by kernel_rfl) ?_
  simp only [List.size_toArray, List.length_cons, List.length_nil, Nat.reduceAdd]
  intro hc
  have S0 : StillAt W1 (Array.replicate 11 false) W1.drew := (Below.refl _ _).drew
  refine wpAnyS_take (i := 0) (v := .pointer (some ⟨p, 0, none⟩)) rfl (by kernel_rfl) (by kernel_rfl) (by kernel_rfl) (fun _ _ _ h => h) (fun _ _ => Iff.rfl) hc (by first | rfl | simp [Region.wanted]) (fun wx hx => ?_) S0 (fun hc S0 => ?_)
  ·go_simp
  try simp only [tk1, tk3, Act.put, tk4, tk5, tk6]
  refine wpAnyS_take (i := 1) (v := .pointer (some ⟨p, 0, none⟩)) rfl (by kernel_rfl) (by kernel_rfl) (by kernel_rfl) (fun _ _ _ h => h) (fun _ _ => Iff.rfl) hc (by first | rfl | simp [Region.wanted]) (fun wx hx => ?_) S0 (fun hc S0 => ?_)
  ·go_simp
  try simp only [tk1, tk2, tk3, Act.put, tk4, tk5, tk6]
  refine wpAnyS_take (i := 2) (v := .pointer (some ⟨p, 0, none⟩)) rfl (by kernel_rfl) (by kernel_rfl) (by kernel_rfl) (fun _ _ _ h => h) (fun _ _ => Iff.rfl) hc (by first | rfl | simp [Region.wanted]) (fun wx hx => ?_) S0 (fun hc S0 => ?_)
  ·go_simp
  try simp only [tk1, tk2, tk3, Act.put, tk4, tk5, tk6]
  refine wpAnyS_take (i := 3) (v := .slice va 0 cap) rfl (by kernel_rfl) (by kernel_rfl) (by kernel_rfl) (fun _ _ _ h => h) (fun _ _ => Iff.rfl) hc (by first | rfl | simp [Region.wanted]) (fun wx hx => ?_) S0 (fun hc S0 => ?_)
  ·have q := (hx.still.cell (p := ⟨p, 0, none⟩) hpz1).trans d0
   go_simp
  try simp only [tk1, tk2, tk3, Act.put, tk4, tk5, tk6]
  refine wpAnyS_take (i := 4) (v := .int .i64 0) rfl (by kernel_rfl) (by kernel_rfl) (by kernel_rfl) (fun _ _ _ h => h) (fun _ _ => Iff.rfl) hc (by first | rfl | simp [Region.wanted]) (fun wx hx => ?_) S0 (fun hc S0 => ?_)
  ·go_simp
  try simp only [tk1, tk2, tk3, Act.put, tk4, tk5, tk6]
  refine wpAnyS_take (i := 5) (v := .bool false) rfl (by kernel_rfl) (by kernel_rfl) (by kernel_rfl) (fun _ _ _ h => h) (fun _ _ => Iff.rfl) hc (by first | rfl | simp [Region.wanted]) (fun wx hx => ?_) S0 (fun hc S0 => ?_)
  ·go_simp
  try simp only [tk1, tk2, tk3, Act.put, tk4, tk5, tk6]
  refine wpAnyS_take (i := 6) (v := .pointer (some ⟨p, 0, none⟩)) rfl (by kernel_rfl) (by kernel_rfl) (by kernel_rfl) (fun _ _ _ h => h) (fun _ _ => Iff.rfl) hc (by first | rfl | simp [Region.wanted]) (fun wx hx => ?_) S0 (fun hc S0 => ?_)
  ·go_simp
  try simp only [tk1, tk2, tk3, Act.put, tk4, tk5, tk6]
  refine wpAnyS_take (i := 7) (v := .pointer (some ⟨p, 0, none⟩)) rfl (by kernel_rfl) (by kernel_rfl) (by kernel_rfl) (fun _ _ _ h => h) (fun _ _ => Iff.rfl) hc (by first | rfl | simp [Region.wanted]) (fun wx hx => ?_) S0 (fun hc S0 => ?_)
  ·go_simp
  try simp only [tk1, tk2, tk3, Act.put, tk4, tk5, tk6]
  refine wpAnyS_take (i := 8) (v := .pointer (some ⟨p, 1, none⟩)) rfl (by kernel_rfl) (by kernel_rfl) (by kernel_rfl) (fun _ _ _ h => h) (fun _ _ => Iff.rfl) hc (by first | rfl | simp [Region.wanted]) (fun wx hx => ?_) S0 (fun hc S0 => ?_)
  ·go_simp
  try simp only [tk1, tk2, tk3, Act.put, tk4, tk5, tk6]
  refine wpAnyS_take (i := 9) (v := .int .i64 e) rfl (by kernel_rfl) (by kernel_rfl) (by kernel_rfl) (fun _ _ _ h => h) (fun _ _ => Iff.rfl) hc (by first | rfl | simp [Region.wanted]) (fun wx hx => ?_) S0 (fun hc S0 => ?_)
  ·have q := (hx.still.cell (p := ⟨p, 1, none⟩) hpz1).trans d1
   go_simp
  try simp only [tk1, tk2, tk3, Act.put, tk4, tk5, tk6]
  refine wpAnyS_one (i := 10) rfl (by kernel_rfl) (by rfl) hc (fun K' hK => ?_)
  go_simp
  refine (HN.out).mono ?_
  rintro en w2 ⟨rfl, hb⟩
  have HB2 := hid (Below.step (Below.step HB1.out (Below.refl _ W1).drew) hb)
  refine (show bodyPost _ _ _ _ _ _ from ⟨rfl, ?_⟩)
  rw [HE.out]
  exact ⟨rfl, Tch.of_below HB2.out _⟩
 | cons t r =>
  obtain ⟨g, o, rfl, hgp, hr⟩ := q3 (by simp)
  have HRW := hid hr
  have hc := hr.2 0 t rfl
  have e0 := hc 0 _ rfl
  have e1 := hc 1 _ rfl
  have e2 := hc 2 _ rfl
  have e3 := hc 3 _ rfl
  simp only [Nat.zero_mul, Nat.add_zero] at e0 e1 e2 e3
  have hg := hr.1
  obtain ⟨n, hn⟩ : ∃ n, n = r.length := ⟨_, rfl⟩
  rw [List.length_cons, ← hn] at c0 d0 q1 HB
  rw [List.length_cons, ← hn] at hl
  have HN := hid hn
  have n0 : (0 : Int) < ((n + 1 : Nat) : Int) := by omega
  have n1 : decide ((0 : Int) < ((n + 1 : Nat) : Int)) = true := decide_eq_true n0
  have HY := hid (need_yes 6 e W1.drew)
  have HE := hid (show Fa.take kd x e (t :: r) = if t.2.kind = kd ∧ (x = [] ∨ t.2.text = x) then .ok (t, r) else .error (5, t.1) from rfl)
  have d1 := d1
  have g0 := (HB1.out.cell (p := ⟨g, o, none⟩) hg).trans e0
  have g1 := (HB1.out.cell (p := ⟨g, o + 1, none⟩) hg).trans e1
  have g2 := (HB1.out.cell (p := ⟨g, o + 2, none⟩) hg).trans e2
  have g3 := (HB1.out.cell (p := ⟨g, o + 3, none⟩) hg).trans e3
  have hgz := Nat.lt_of_lt_of_le hg HB1.out.size
  clear hr hc q3 hn e0 e1 e2 e3 c0 c1
  go_enter Tryz.func93, Tryz.ntmps93
  go_upto_region 1 with (fail)
  rw [← hW1]
  clear hW1
  refine wp_heldS (S := StillAt W1) (by kernel_rfl) ?_
  simp only [List.size_toArray, List.length_cons, List.length_nil, Nat.reduceAdd]
  intro hc
  have S0 : StillAt W1 (Array.replicate 11 false) W1.drew := (Below.refl _ _).drew
  refine wpAnyS_take (i := 0) (v := .pointer (some ⟨p, 0, none⟩)) rfl (by kernel_rfl) (by kernel_rfl) (by kernel_rfl) (fun _ _ _ h => h) (fun _ _ => Iff.rfl) hc (by first | rfl | simp [Region.wanted]) (fun wx hx => ?_) S0 (fun hc S0 => ?_)
  ·go_simp
  try simp only [tk1, tk3, Act.put, tk4, tk5, tk6]
  refine wpAnyS_take (i := 1) (v := .pointer (some ⟨p, 0, none⟩)) rfl (by kernel_rfl) (by kernel_rfl) (by kernel_rfl) (fun _ _ _ h => h) (fun _ _ => Iff.rfl) hc (by first | rfl | simp [Region.wanted]) (fun wx hx => ?_) S0 (fun hc S0 => ?_)
  ·go_simp
  try simp only [tk1, tk2, tk3, Act.put, tk4, tk5, tk6]
  refine wpAnyS_take (i := 2) (v := .pointer (some ⟨p, 0, none⟩)) rfl (by kernel_rfl) (by kernel_rfl) (by kernel_rfl) (fun _ _ _ h => h) (fun _ _ => Iff.rfl) hc (by first | rfl | simp [Region.wanted]) (fun wx hx => ?_) S0 (fun hc S0 => ?_)
  ·go_simp
  try simp only [tk1, tk2, tk3, Act.put, tk4, tk5, tk6]
  refine wpAnyS_take (i := 3) (v := .slice (some ⟨g, o, none⟩) (n + 1) cap) rfl (by kernel_rfl) (by kernel_rfl) (by kernel_rfl) (fun _ _ _ h => h) (fun _ _ => Iff.rfl) hc (by first | rfl | simp [Region.wanted]) (fun wx hx => ?_) S0 (fun hc S0 => ?_)
  ·have q := (hx.still.cell (p := ⟨p, 0, none⟩) hpz1).trans d0
   go_simp
  try simp only [tk1, tk2, tk3, Act.put, tk4, tk5, tk6]
  refine wpAnyS_take (i := 4) (v := .int .i64 ((n + 1 : Nat) : Int)) rfl (by kernel_rfl) (by kernel_rfl) (by kernel_rfl) (fun _ _ _ h => h) (fun _ _ => Iff.rfl) hc (by first | rfl | simp [Region.wanted]) (fun wx hx => ?_) S0 (fun hc S0 => ?_)
  ·go_simp
  try simp only [tk1, tk2, tk3, Act.put, tk4, tk5, tk6]
  refine wpAnyS_take (i := 5) (v := .bool true) rfl (by kernel_rfl) (by kernel_rfl) (by kernel_rfl) (fun _ _ _ h => h) (fun _ _ => Iff.rfl) hc (by first | rfl | simp [Region.wanted]) (fun wx hx => ?_) S0 (fun hc S0 => ?_)
  ·go_simp
  try simp only [tk1, tk2, tk3, Act.put, tk4, tk5, tk6]
  refine wpAnyS_take (i := 6) (v := .pointer (some ⟨p, 0, none⟩)) rfl (by kernel_rfl) (by kernel_rfl) (by kernel_rfl) (fun _ _ _ h => h) (fun _ _ => Iff.rfl) hc (by first | rfl | simp [Region.wanted]) (fun wx hx => ?_) S0 (fun hc S0 => ?_)
  ·go_simp
  try simp only [tk1, tk2, tk3, Act.put, tk4, tk5, tk6]
  refine wpAnyS_take (i := 7) (v := .pointer (some ⟨p, 0, none⟩)) rfl (by kernel_rfl) (by kernel_rfl) (by kernel_rfl) (fun _ _ _ h => h) (fun _ _ => Iff.rfl) hc (by first | rfl | simp [Region.wanted]) (fun wx hx => ?_) S0 (fun hc S0 => ?_)
  ·go_simp
  try simp only [tk1, tk2, tk3, Act.put, tk4, tk5, tk6]
  refine wpAnyS_take (i := 8) (v := .pointer (some ⟨p, 1, none⟩)) rfl (by kernel_rfl) (by kernel_rfl) (by kernel_rfl) (fun _ _ _ h => h) (fun _ _ => Iff.rfl) hc (by first | rfl | simp [Region.wanted]) (fun wx hx => ?_) S0 (fun hc S0 => ?_)
  ·go_simp
  try simp only [tk1, tk2, tk3, Act.put, tk4, tk5, tk6]
  refine wpAnyS_take (i := 9) (v := .int .i64 e) rfl (by kernel_rfl) (by kernel_rfl) (by kernel_rfl) (fun _ _ _ h => h) (fun _ _ => Iff.rfl) hc (by first | rfl | simp [Region.wanted]) (fun wx hx => ?_) S0 (fun hc S0 => ?_)
  ·have q := (hx.still.cell (p := ⟨p, 1, none⟩) hpz1).trans d1
   go_simp
  try simp only [tk1, tk2, tk3, Act.put, tk4, tk5, tk6]
  refine wpAnyS_one (i := 10) rfl (by kernel_rfl) (by rfl) hc (fun K' hK => ?_)
  go_simp
  refine (HY.out).mono ?_
  rintro en w2 ⟨rfl, hb⟩
  have HB12 := hid (Below.step (Below.refl _ W1).drew hb)
  clear hb
  refine hK.out _ _ HB12.out (fun hc => ?_)
  clear hK K'
  have S0 : StillAt W1 #[] w2 := HB12.out
  try simp only [tk1, tk2, tk3, Act.put, tk4, tk5, tk6]
  refine wpAnyS_done (by kernel_rfl) ?_ _
  clear hc S0
  have d0 := (HB12.out.cell (p := ⟨p, 0, none⟩) hpz1).trans d0
  have d1 := (HB12.out.cell (p := ⟨p, 1, none⟩) hpz1).trans d1
  have g0 := (HB12.out.cell (p := ⟨g, o, none⟩) hgz).trans g0
  have g1 := (HB12.out.cell (p := ⟨g, o + 1, none⟩) hgz).trans g1
  have g2 := (HB12.out.cell (p := ⟨g, o + 2, none⟩) hgz).trans g2
  have g3 := (HB12.out.cell (p := ⟨g, o + 3, none⟩) hgz).trans g3
  have hgz := Nat.lt_of_lt_of_le hgz HB12.out.size
  have hpz2 := Nat.lt_of_lt_of_le hpz1 HB12.out.size
  have HB2 := hid (Below.step HB1.out HB12.out)
  obtain ⟨W3, hW3⟩ : ∃ W3, W3 = w2.alloc (.cells #[.int .i64 t.2.kind, .int .i64 t.1, .int .i64 t.2.n, .string (bs t.2.text)] 116) := ⟨_, rfl⟩
  have hb3 : Below w2.heap.size w2 W3 := by rw [hW3]; exact (Below.refl _ w2).alloc (Nat.le_refl _) _
  have HS3 := hid (show W3.heap[w2.heap.size]? = some (.cells #[.int .i64 t.2.kind, .int .i64 t.1, .int .i64 t.2.n, .string (bs t.2.text)] 116 (0, 0)) by rw [hW3]; exact alloc_new w2 _)
  have hPB := (hb3.block p hpz2).trans ((HB2.out.block p hpz).trans HB.out)
  have HB3 := hid (Below.step HB2.out hb3)
  obtain ⟨W4, hW4⟩ : ∃ W4, W4 = W3.setCell ⟨p, 2, none⟩ (.int .i64 t.1) := ⟨_, rfl⟩
  have y1' : W3.cell? ⟨w2.heap.size, 1, none⟩ = some (.int .i64 t.1) := by simp [World.cell?, HS3.out]
  have z2' : W3.cell? ⟨p, 2, none⟩ = some (.int .i64 a) := by simp [World.cell?, hPB]
  have f2' : W3.frozen? ⟨p, 2, none⟩ = false := frozen_of_row W3 p 2 _ _ hPB
  have hpz3 := Nat.lt_of_lt_of_le hpz2 hb3.size
  have hwz3 : w2.heap.size < W3.heap.size := (Array.getElem?_eq_some_iff.1 HS3.out).1
  have HPZ := hid (And.intro hpz (And.intro hpz2 (And.intro hpz3 hwz3)))
  go_upto_region 3 with (fail)
  rw [← hW3]
  clear hW3 g0 g1 g2 g3
  go_upto_region 4 with (fail)
  rw [← hW4]
  have hpne : p ≠ w2.heap.size := by have := HPZ.out; omega
  have hP4 : W4.heap[p]? = some (.cells #[.slice (some ⟨g, o, none⟩) (n + 1) cap, .int .i64 e, .int .i64 t.1] 113 (0, 0)) := by
   rw [hW4]
   exact blk_setP hPB 2 _
  have hS4 : W4.heap[w2.heap.size]? = some (.cells #[.int .i64 t.2.kind, .int .i64 t.1, .int .i64 t.2.n, .string (bs t.2.text)] 116 (0, 0)) := by
   rw [hW4, Below.heap_setCell _ _ _ _ (by show w2.heap.size ≠ p; omega)]
   exact HS3.out
  have hZ4 : W4.heap[w.heap.size]? = some (.cells #[.int .i64 0, .int .i64 0, .int .i64 0, .string ⟨#[]⟩] 116 (0, 0)) := by
   rw [hW4, Below.heap_setCell _ _ _ _ (by show w.heap.size ≠ p; omega)]
   exact ((Below.step HB12.out hb3).block _ (Array.getElem?_eq_some_iff.1 HS1.out).1).trans HS1.out
  have hT4 : Tch (fun b => b = p) w W4 := by
   rw [hW4]
   exact (Tch.of_below HB3.out (fun b => b = p)).setCell (a := ⟨p, 2, none⟩) (.inl rfl) _
  have HP4 := hid hP4
  have HS4 := hid hS4
  have HZ4 := hid hZ4
  have HT4 := hid hT4
  have y0 : W4.cell? ⟨w2.heap.size, 0, none⟩ = some (.int .i64 t.2.kind) := by simp [World.cell?, hS4]
  have y1 : W4.cell? ⟨w2.heap.size, 1, none⟩ = some (.int .i64 t.1) := by simp [World.cell?, hS4]
  have y3 : W4.cell? ⟨w2.heap.size, 3, none⟩ = some (.string (bs t.2.text)) := by simp [World.cell?, hS4]
  have yl : w2.heap.size < W4.heap.size := (Array.getElem?_eq_some_iff.1 hS4).1
  clear hW4 y1' z2' f2' hP4 hS4 hZ4 hT4 hPB hb3 d0 d1
  by_cases r1 : t.2.kind = kd
  ·have s1 : ((t.2.kind : Int) == (kd : Int)) = true := by rw [r1]; simp
   by_cases r2 : x = []
   ·have s2 : (bs x).toList.isEmpty = true := by rw [r2, ByteArray.toList_eq]; rfl
    have HE2 := hid (HE.out.trans (if_pos ⟨r1, .inl r2⟩))
    have HY2 := hid (need_yes 5 t.1 W4)
    clear r1 r2
    go_wp2_with fail
    refine (HY2.out).mono ?_
    rintro en w5 ⟨rfl, hb5⟩
    have hP5 := (hb5.block _ (Array.getElem?_eq_some_iff.1 HP4.out).1).trans HP4.out
    have hS5 := (hb5.block _ (Array.getElem?_eq_some_iff.1 HS4.out).1).trans HS4.out
    have hZ5 := (hb5.block _ (Array.getElem?_eq_some_iff.1 HZ4.out).1).trans HZ4.out
    have HT5 := hid (HT4.out.step hb5)
    have HP5 := hid hP5
    have HZ5 := hid hZ5
    have c0 : w5.cell? ⟨p, 0, none⟩ = some (.slice (some ⟨g, o, none⟩) (n + 1) cap) := by simp [World.cell?, hP5]
    have cf : w5.frozen? ⟨p, 0, none⟩ = false := frozen_of_row w5 p 0 _ _ hP5
    have cl : p < w5.heap.size := (Array.getElem?_eq_some_iff.1 hP5).1
    have y0 : w5.cell? ⟨w2.heap.size, 0, none⟩ = some (.int .i64 t.2.kind) := by simp [World.cell?, hS5]
    have y1 : w5.cell? ⟨w2.heap.size, 1, none⟩ = some (.int .i64 t.1) := by simp [World.cell?, hS5]
    have y2 : w5.cell? ⟨w2.heap.size, 2, none⟩ = some (.int .i64 t.2.n) := by simp [World.cell?, hS5]
    have y3 : w5.cell? ⟨w2.heap.size, 3, none⟩ = some (.string (bs t.2.text)) := by simp [World.cell?, hS5]
    have yl : w2.heap.size < w5.heap.size := (Array.getElem?_eq_some_iff.1 hS5).1
    have z0 : w5.cell? ⟨w.heap.size, 0, none⟩ = some (.int .i64 0) := by simp [World.cell?, hZ5]
    have z1 : w5.cell? ⟨w.heap.size, 1, none⟩ = some (.int .i64 0) := by simp [World.cell?, hZ5]
    have z2 : w5.cell? ⟨w.heap.size, 2, none⟩ = some (.int .i64 0) := by simp [World.cell?, hZ5]
    have z3 : w5.cell? ⟨w.heap.size, 3, none⟩ = some (.string ⟨#[]⟩) := by simp [World.cell?, hZ5]
    have v0 : ∀ j, w5.frozen? ⟨w.heap.size, j, none⟩ = false := fun j => frozen_of_row w5 _ j _ _ hZ5
    have zl : w.heap.size < w5.heap.size := (Array.getElem?_eq_some_iff.1 hZ5).1
    have m1 : ¬ p = w.heap.size := by omega
    have m2 : ¬ w.heap.size = p := by omega
    have m3 : ¬ w2.heap.size = p := by omega
    have m4 : ¬ p = w2.heap.size := by omega
    have t1 : (1 : Int) ≤ ((n + 1 : Nat) : Int) := by omega
    have t2 : ((n + 1 : Nat) : Int) ≤ (cap : Int) := by omega
    have t3 : 1 ≤ cap := by omega
    clear hP5 hS5 hZ5 hb5
    by_cases hcap : cap = 1
    ·subst hcap
     have hn0 : n = 0 := by omega
     subst hn0
     have HSL := hid (show SlIn w (.slice (some ⟨g, o, none⟩) 0 0) (fun b => B < b ∧ b < p) 4 tkcP r from ⟨_, 0, by rw [← HN.out], by rw [← HN.out]; omega, by unfold maxLen; omega, fun h => by rw [← HN.out] at h; omega⟩)
     go_wp2_with fail
     obtain ⟨o1, o2, o3⟩ := take_outP hpz hBp HT5.out HP5.out HZ5.out HSL.out rfl
     refine bodyPost_ret (v := tkvP t) (results_cell_row rfl _ _ w.heap.size 116 #[.int .i64 t.2.kind, .int .i64 t.1, .int .i64 t.2.n, .string (bs t.2.text)] (0, 0) _ rfl o1 Tryz.underlying116 rfl (by kernel_rfl)) rfl ?_
     rw [HE2.out]
     exact ⟨rfl, o2, o3⟩
    ·have hcap1 : ¬ 1 = cap := fun h => hcap h.symm
     have HSL := hid (show SlIn w (.slice (some ⟨g, o + 4, none⟩) n (cap - 1)) (fun b => B < b ∧ b < p) 4 tkcP r from ⟨_, cap - 1, by rw [HN.out], by rw [← HN.out]; omega, by omega, fun _ => ⟨g, o + 4, rfl, hgp, row_tail HRW.out⟩⟩)
     go_wp2_with fail
     obtain ⟨o1, o2, o3⟩ := take_outP hpz hBp HT5.out HP5.out HZ5.out HSL.out rfl
     refine bodyPost_ret (v := tkvP t) (results_cell_row rfl _ _ w.heap.size 116 #[.int .i64 t.2.kind, .int .i64 t.1, .int .i64 t.2.n, .string (bs t.2.text)] (0, 0) _ rfl o1 Tryz.underlying116 rfl (by kernel_rfl)) rfl ?_
     rw [HE2.out]
     exact ⟨rfl, o2, o3⟩
   ·have s2 : (bs x).toList.isEmpty = false := by
     cases x with
     | nil => exact absurd rfl r2
     | cons c x => rw [ByteArray.toList_eq]; rfl
    by_cases r3 : t.2.text = x
    ·have s3 : ((bs t.2.text).toList == (bs x).toList) = true := by rw [text_beq]; exact decide_eq_true r3
     have HE2 := hid (HE.out.trans (if_pos ⟨r1, .inr r3⟩))
     have HY2 := hid (need_yes 5 t.1 W4)
     clear r1 r2 r3
     go_wp2_with fail
     refine (HY2.out).mono ?_
     rintro en w5 ⟨rfl, hb5⟩
     have hP5 := (hb5.block _ (Array.getElem?_eq_some_iff.1 HP4.out).1).trans HP4.out
     have hS5 := (hb5.block _ (Array.getElem?_eq_some_iff.1 HS4.out).1).trans HS4.out
     have hZ5 := (hb5.block _ (Array.getElem?_eq_some_iff.1 HZ4.out).1).trans HZ4.out
     have HT5 := hid (HT4.out.step hb5)
     have HP5 := hid hP5
     have HZ5 := hid hZ5
     have c0 : w5.cell? ⟨p, 0, none⟩ = some (.slice (some ⟨g, o, none⟩) (n + 1) cap) := by simp [World.cell?, hP5]
     have cf : w5.frozen? ⟨p, 0, none⟩ = false := frozen_of_row w5 p 0 _ _ hP5
     have cl : p < w5.heap.size := (Array.getElem?_eq_some_iff.1 hP5).1
     have y0 : w5.cell? ⟨w2.heap.size, 0, none⟩ = some (.int .i64 t.2.kind) := by simp [World.cell?, hS5]
     have y1 : w5.cell? ⟨w2.heap.size, 1, none⟩ = some (.int .i64 t.1) := by simp [World.cell?, hS5]
     have y2 : w5.cell? ⟨w2.heap.size, 2, none⟩ = some (.int .i64 t.2.n) := by simp [World.cell?, hS5]
     have y3 : w5.cell? ⟨w2.heap.size, 3, none⟩ = some (.string (bs t.2.text)) := by simp [World.cell?, hS5]
     have yl : w2.heap.size < w5.heap.size := (Array.getElem?_eq_some_iff.1 hS5).1
     have z0 : w5.cell? ⟨w.heap.size, 0, none⟩ = some (.int .i64 0) := by simp [World.cell?, hZ5]
     have z1 : w5.cell? ⟨w.heap.size, 1, none⟩ = some (.int .i64 0) := by simp [World.cell?, hZ5]
     have z2 : w5.cell? ⟨w.heap.size, 2, none⟩ = some (.int .i64 0) := by simp [World.cell?, hZ5]
     have z3 : w5.cell? ⟨w.heap.size, 3, none⟩ = some (.string ⟨#[]⟩) := by simp [World.cell?, hZ5]
     have v0 : ∀ j, w5.frozen? ⟨w.heap.size, j, none⟩ = false := fun j => frozen_of_row w5 _ j _ _ hZ5
     have zl : w.heap.size < w5.heap.size := (Array.getElem?_eq_some_iff.1 hZ5).1
     have m1 : ¬ p = w.heap.size := by omega
     have m2 : ¬ w.heap.size = p := by omega
     have m3 : ¬ w2.heap.size = p := by omega
     have m4 : ¬ p = w2.heap.size := by omega
     have t1 : (1 : Int) ≤ ((n + 1 : Nat) : Int) := by omega
     have t2 : ((n + 1 : Nat) : Int) ≤ (cap : Int) := by omega
     have t3 : 1 ≤ cap := by omega
     clear hP5 hS5 hZ5 hb5
     by_cases hcap : cap = 1
     ·subst hcap
      have hn0 : n = 0 := by omega
      subst hn0
      have HSL := hid (show SlIn w (.slice (some ⟨g, o, none⟩) 0 0) (fun b => B < b ∧ b < p) 4 tkcP r from ⟨_, 0, by rw [← HN.out], by rw [← HN.out]; omega, by unfold maxLen; omega, fun h => by rw [← HN.out] at h; omega⟩)
      go_wp2_with fail
      obtain ⟨o1, o2, o3⟩ := take_outP hpz hBp HT5.out HP5.out HZ5.out HSL.out rfl
      refine bodyPost_ret (v := tkvP t) (results_cell_row rfl _ _ w.heap.size 116 #[.int .i64 t.2.kind, .int .i64 t.1, .int .i64 t.2.n, .string (bs t.2.text)] (0, 0) _ rfl o1 Tryz.underlying116 rfl (by kernel_rfl)) rfl ?_
      rw [HE2.out]
      exact ⟨rfl, o2, o3⟩
     ·have hcap1 : ¬ 1 = cap := fun h => hcap h.symm
      have HSL := hid (show SlIn w (.slice (some ⟨g, o + 4, none⟩) n (cap - 1)) (fun b => B < b ∧ b < p) 4 tkcP r from ⟨_, cap - 1, by rw [HN.out], by rw [← HN.out]; omega, by omega, fun _ => ⟨g, o + 4, rfl, hgp, row_tail HRW.out⟩⟩)
      go_wp2_with fail
      obtain ⟨o1, o2, o3⟩ := take_outP hpz hBp HT5.out HP5.out HZ5.out HSL.out rfl
      refine bodyPost_ret (v := tkvP t) (results_cell_row rfl _ _ w.heap.size 116 #[.int .i64 t.2.kind, .int .i64 t.1, .int .i64 t.2.n, .string (bs t.2.text)] (0, 0) _ rfl o1 Tryz.underlying116 rfl (by kernel_rfl)) rfl ?_
      rw [HE2.out]
      exact ⟨rfl, o2, o3⟩
    ·have s3 : ((bs t.2.text).toList == (bs x).toList) = false := by rw [text_beq]; exact decide_eq_false r3
     have HE2 := hid (HE.out.trans (if_neg fun h => h.2.elim r2 r3))
     have HN5 := hid (need_no 5 t.1 W4)
     clear r1 r2 r3
     go_wp2_with fail
     refine (HN5.out).mono ?_
     rintro en w5 ⟨rfl, hb5⟩
     unfold thrownP
     go_wp2_with fail
     refine ⟨rfl, ?_⟩
     rw [HE2.out]
     exact ⟨rfl, HT4.out.step hb5⟩
  ·have s1 : ((t.2.kind : Int) == (kd : Int)) = false := by rw [beq_eq_false_iff_ne]; omega
   have HE2 := hid (HE.out.trans (if_neg fun h => r1 h.1))
   have HN5 := hid (need_no 5 t.1 W4)
   clear r1
   go_wp2_with fail
   refine (HN5.out).mono ?_
   rintro en w5 ⟨rfl, hb5⟩
   unfold thrownP
   go_wp2_with fail
   refine ⟨rfl, ?_⟩
   rw [HE2.out]
   exact ⟨rfl, HT4.out.step hb5⟩

end Go.Proofs.YtdchjacccmajcaaGreatDoor

namespace Go.Proofs.YtdchjacccmajcaaGreatDoor
open Go.RowKit Go.Maps Go.Lib

variable {B : Nat}

theorem take_tok10 (kdI : Int) (kd : Nat) (s : ByteArray) (x : List UInt8) (h1 : kdI = kd) (h2 : s = bs x) (w : World) (p : Nat) (l : List Fa.T) (e a : Nat) (h : PsW B w p l e a) (hl : l.length ≤ 5000) :
  Calls Tryz.prog 93 #[.pointer (some ⟨p, 0, none⟩), .int .i64 kdI, .string s] w (TakeW B w p e (Fa.take kd x e l)) := by
 subst h1; subst h2
 exact take_any10 kd x w p l e a h hl

/-- a number read -/
def NumW (B : Nat) (w : World) (p e : Nat) (r : Except Fa.Fail (Int × List Fa.T)) (en : Ending) (w' : World) : Prop :=
 match r with
 | .ok (n, l) => en = .returned (.int .i64 n) ∧ (∃ a, PsW B w' p l e a) ∧ Tch (fun b => b = p) w w'
 | .error x => ThrowsP w p x en w'

set_option maxRecDepth 100000 in
set_option maxHeartbeats 4000000 in
theorem cost_any10 (w : World) (p : Nat) (l : List Fa.T) (e a : Nat) (h : PsW B w p l e a) (hl : l.length ≤ 5000) : Calls Tryz.prog 95 #[.pointer (some ⟨p, 0, none⟩)] w (NumW B w p e (Rw.costP e l)) := by
 have hpz : p < w.heap.size := by obtain ⟨ts, _, h2, _⟩ := h; exact (Array.getElem?_eq_some_iff.1 h2).1
 have HT1 := hid (take_tok10 2 2 ⟨#[]⟩ [] rfl rfl w p l e a h hl)
 have HU := hid (show Rw.costP e l = match Fa.take 2 [] e l with | .error x => .error x | .ok (t, r) => if 1000 < t.2.n then .error (10, t.1) else .ok ((t.2.n : Int), r) from rfl)
 clear h hl
 cases h1 : Fa.take 2 [] e l with
 | error x =>
  have HE := hid (show Rw.costP e l = .error x by rw [HU.out, h1])
  rw [h1] at HT1
  clear h1
  go_enter Tryz.func95, Tryz.ntmps95
  go_wp2_with fail
  refine (HT1.out).mono ?_
  rintro en w1 ⟨rfl, ht1⟩
  unfold thrownP
  go_wp2_with fail
  refine ⟨rfl, ?_⟩
  rw [HE.out]
  exact ⟨rfl, ht1⟩
 | ok u =>
  obtain ⟨t, r⟩ := u
  have HE := hid (show Rw.costP e l = if 1000 < t.2.n then .error (10, t.1) else .ok ((t.2.n : Int), r) by rw [HU.out, h1])
  rw [h1] at HT1
  clear h1 HU
  go_enter Tryz.func95, Tryz.ntmps95
  go_wp2_with fail
  refine (HT1.out).mono ?_
  rintro en w1 ⟨rfl, hP1, ht1⟩
  have HT := hid ht1
  have HP1 := hid hP1
  clear hP1 ht1 HT1
  obtain ⟨W2, hW2⟩ : ∃ W2, W2 = w1.alloc (.cells #[.int .i64 t.2.kind, .int .i64 t.1, .int .i64 t.2.n, .string (bs t.2.text)] 116) := ⟨_, rfl⟩
  have hb2 : Below w1.heap.size w1 W2 := by rw [hW2]; exact (Below.refl _ w1).alloc (Nat.le_refl _) _
  have hs2 : W2.heap[w1.heap.size]? = some (.cells #[.int .i64 t.2.kind, .int .i64 t.1, .int .i64 t.2.n, .string (bs t.2.text)] 116 (0, 0)) := by rw [hW2]; exact alloc_new w1 _
  have y1 : W2.cell? ⟨w1.heap.size, 1, none⟩ = some (.int .i64 t.1) := by simp [World.cell?, hs2]
  have y2 : W2.cell? ⟨w1.heap.size, 2, none⟩ = some (.int .i64 t.2.n) := by simp [World.cell?, hs2]
  have yl : w1.heap.size < W2.heap.size := (Array.getElem?_eq_some_iff.1 hs2).1
  have HS2 := hid hs2
  have HT2 := hid (HT.out.step hb2)
  have HP2 := hid (HP1.out.below hb2)
  clear hs2 hb2
  unfold tkvP
  go_upto_region 2 with (fail)
  rw [← hW2]
  clear hW2
  by_cases hn : 1000 < t.2.n
  ·have g1 : decide ((t.2.n : Int) ≤ 1000) = false := decide_eq_false (by omega)
   have HE2 := hid (HE.out.trans (if_pos hn))
   have HN := hid (need_no 10 t.1 W2)
   clear hn
   go_wp2_with fail
   refine (HN.out).mono ?_
   rintro en w3 ⟨rfl, hb3⟩
   unfold thrownP
   go_wp2_with fail
   refine ⟨rfl, ?_⟩
   rw [HE2.out]
   exact ⟨rfl, HT2.out.step hb3⟩
  ·have g1 : decide ((t.2.n : Int) ≤ 1000) = true := decide_eq_true (by omega)
   have HE2 := hid (HE.out.trans (if_neg hn))
   have HN := hid (need_yes 10 t.1 W2)
   clear hn
   go_wp2_with fail
   refine (HN.out).mono ?_
   rintro en w3 ⟨rfl, hb3⟩
   have y2 := (hb3.cell (p := ⟨w1.heap.size, 2, none⟩) yl).trans y2
   have yl := Nat.lt_of_lt_of_le yl hb3.size
   have HT3 := hid (HT2.out.step hb3)
   have HP3 := hid (HP2.out.below hb3)
   clear hb3 HN g1
   go_wp2_with fail
   go_ret
   rw [HE2.out]
   exact ⟨rfl, ⟨_, HP3.out⟩, HT3.out⟩

end Go.Proofs.YtdchjacccmajcaaGreatDoor
