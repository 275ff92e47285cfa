/-
  The reader of tokens: take, check, flag, span. Conditions: lengths.
-/
import Derived.Test.YteogmlgmodeajaaGreatDoorZFa4
namespace Go.Proofs.YteogmlgmodeajaaGreatDoor
open Go.RowKit Go.Maps

variable {B : Nat}

/-- a reader in block p: it reads the tokens l, is at k, the text's end is e -/
def RdrW (B : Nat) (w : World) (p : Nat) (l : List Fa.T) (k e : Nat) : Prop :=
  ∃ ts, SlIn w ts (fun b => B < b ∧ b < p) 4 tkC l ∧ w.heap[p]? = some (.cells #[ts, .int .i64 k, .int .i64 e] 53 (0, 0)) ∧ k ≤ l.length ∧ B < p

/-- what is thrown -/
def thrown (x : Fa.Fail) : Ending := .panicked [{ v := .iface 95 (.agg #[.int .i64 x.1, .int .i64 x.2]), recovered := false }]

theorem RdrW.tch {w w' : World} {p k e : Nat} {l : List Fa.T} {O : Nat → Prop} (h : RdrW B w p l k e) (ht : Tch O w w') (ho : ∀ b, B < b → b ≤ p → ¬ O b) : RdrW B w' p l k e := by
  obtain ⟨ts, h1, h2, h3, h4⟩ := h
  exact ⟨ts, h1.tch ht fun b hb => ho b hb.1 (Nat.le_of_lt hb.2), (ht.block p (Array.getElem?_eq_some_iff.1 h2).1 (ho p h4 (Nat.le_refl _))).trans h2, h3, h4⟩
theorem RdrW.below {w w' : World} {p k e : Nat} {l : List Fa.T} (h : RdrW B w p l k e) (hb : Below w.heap.size w w') : RdrW B w' p l k e := h.tch (Tch.of_below hb (fun _ => False)) (fun _ _ _ e => e)

def TakeP (B : Nat) (w : World) (p : Nat) (l : List Fa.T) (k e : Nat) (r : Except Fa.Fail (Fa.T × List Fa.T)) (en : Ending) (w' : World) : Prop :=
  match r with
  | .ok (t, _) => en = .returned (tkV t) ∧ RdrW B w' p l (k + 1) e ∧ Tch (fun b => b = p) w w'
  | .error x => en = thrown x ∧ RdrW B w' p l k e ∧ Tch (fun b => b = p) w w'

theorem take_end {l : List Fa.T} {k : Nat} (h : ¬ k < l.length) (kd : Nat) (x : List UInt8) (e : Nat) : Fa.take kd x e (l.drop k) = .error (6, e) := by
  rw [List.drop_eq_nil_of_le (by omega)]; rfl
theorem take_at {l : List Fa.T} {k : Nat} {t : Fa.T} (h : l[k]? = some t) (kd : Nat) (x : List UInt8) (e : Nat) : Fa.take kd x e (l.drop k) = if t.2.kind = kd ∧ (x = [] ∨ t.2.text = x) then .ok (t, l.drop (k + 1)) else .error (5, t.1) := by
  rw [drop_cons h]; rfl

theorem take_out {w W : World} {p k e : Nat} {l : List Fa.T} {t : Fa.T} (hr : RdrW B W p l k e) (hk : k < l.length) (hb : Below w.heap.size w W) (hq : W.heap[w.heap.size]? = some (.cells #[.int .i64 0, .int .i64 0, .int .i64 0, .string ⟨#[]⟩] 58 (0, 0))) (hp : p < w.heap.size) {W' : World}
    (hW : W' = ((((W.setCell ⟨p, 1, none⟩ (.int .i64 ((k : Int) + 1))).setCell ⟨w.heap.size, 0, none⟩ (.int .i64 t.2.kind)).setCell ⟨w.heap.size, 1, none⟩ (.int .i64 t.1)).setCell ⟨w.heap.size, 2, none⟩ (.int .i64 t.2.n)).setCell ⟨w.heap.size, 3, none⟩ (.string (bs t.2.text))) :
    W'.heap[w.heap.size]? = some (.cells #[.int .i64 t.2.kind, .int .i64 t.1, .int .i64 t.2.n, .string (bs t.2.text)] 58 (0, 0)) ∧ RdrW B W' p l (k + 1) e ∧ Tch (fun b => b = p) w W' := by
  have hT : Tch (fun b => b = p) w W' := by
    rw [hW]
    exact (((((Tch.of_below hb (fun b => b = p)).setCell (a := ⟨p, 1, none⟩) (.inl rfl) _).setCell (a := ⟨w.heap.size, 0, none⟩) (.inr (Nat.le_refl _)) _).setCell (a := ⟨w.heap.size, 1, none⟩) (.inr (Nat.le_refl _)) _).setCell (a := ⟨w.heap.size, 2, none⟩) (.inr (Nat.le_refl _)) _).setCell (a := ⟨w.heap.size, 3, none⟩) (.inr (Nat.le_refl _)) _
  have hT3 : Tch (fun b => b = p ∨ b = w.heap.size) W W' := by
    rw [hW]
    exact (((((Tch.refl (fun b => b = p ∨ b = w.heap.size) W).setCell (a := ⟨p, 1, none⟩) (.inl (.inl rfl)) _).setCell (a := ⟨w.heap.size, 0, none⟩) (.inl (.inr rfl)) _).setCell (a := ⟨w.heap.size, 1, none⟩) (.inl (.inr rfl)) _).setCell (a := ⟨w.heap.size, 2, none⟩) (.inl (.inr rfl)) _).setCell (a := ⟨w.heap.size, 3, none⟩) (.inl (.inr rfl)) _
  refine ⟨?_, ?_, hT⟩
  · have h0 : (W.setCell ⟨p, 1, none⟩ (.int .i64 ((k : Int) + 1))).heap[w.heap.size]? = some (.cells #[.int .i64 0, .int .i64 0, .int .i64 0, .string ⟨#[]⟩] 58 (0, 0)) := (Below.heap_setCell _ _ _ _ (by show w.heap.size ≠ p; omega)).trans hq
    rw [hW]
    exact blk_set (blk_set (blk_set (blk_set h0 0 _) 1 _) 2 _) 3 _
  · obtain ⟨ts, h1, h2, h3, h5⟩ := hr
    refine ⟨ts, h1.tch hT3 fun b hb' => by rintro (h | h) <;> omega, ?_, hk, h5⟩
    have h4 := blk_set h2 1 (.int .i64 ((k : Int) + 1))
    rw [hW, Below.heap_setCell _ _ _ _ (by show p ≠ w.heap.size; omega), Below.heap_setCell _ _ _ _ (by show p ≠ w.heap.size; omega), Below.heap_setCell _ _ _ _ (by show p ≠ w.heap.size; omega), Below.heap_setCell _ _ _ _ (by show p ≠ w.heap.size; omega), h4]
    rfl

set_option maxRecDepth 100000 in
set_option maxHeartbeats 4000000 in
theorem take_any (kd : Nat) (x : List UInt8) (w : World) (p : Nat) (l : List Fa.T) (k e : Nat) (h : RdrW B w p l k e) (hl : l.length ≤ 5000) :
    Calls Tryz.prog 33 #[.pointer (some ⟨p, 0, none⟩), .int .i64 kd, .string (bs x)] w (TakeP B w p l k e (Fa.take kd x e (l.drop k))) := by
  obtain ⟨ts, h1, h2, h3, hBp⟩ := h
  obtain ⟨va, cap, rfl, q1, q2, q3⟩ := h1
  have HB := hid h2
  have HS := hid (show SlIn w (.slice va l.length cap) (fun b => B < b ∧ b < p) 4 tkC l from ⟨va, cap, rfl, q1, q2, q3⟩)
  have hpz : p < w.heap.size := (Array.getElem?_eq_some_iff.1 h2).1
  have c0 : w.cell? ⟨p, 0, none⟩ = some (.slice va l.length cap) := by simp [World.cell?, h2]
  have c1 : w.cell? ⟨p, 1, none⟩ = some (.int .i64 k) := by simp [World.cell?, h2]
  have c2 : w.cell? ⟨p, 2, none⟩ = some (.int .i64 e) := by simp [World.cell?, h2]
  have f1 : w.frozen? ⟨p, 1, none⟩ = false := frozen_of_row w p 1 _ _ h2
  have hl2 : l.length ≤ 9223372036854775807 := by omega
  have HR := hid (show RdrW B w p l k e from ⟨_, HS.out, h2, h3, hBp⟩)
  clear h2
  by_cases hlt : k < l.length
  · have hkb : ((k : Int) == (l.length : Int)) = false := by rw [beq_eq_false_iff_ne]; omega
    obtain ⟨t, ht⟩ : ∃ t, l[k]? = some t := ⟨_, List.getElem?_eq_getElem hlt⟩
    obtain ⟨g, o, rfl, hgp, hr⟩ := q3 (by omega)
    have hc := hr.2 k t ht
    have e0 := hc 0 _ rfl
    have e1 := hc 1 _ rfl
    have e2 := hc 2 _ rfl
    have e3 := hc 3 _ rfl
    rw [Nat.add_zero] at e0
    have hg := hr.1
    have hk0 : (0 : Int) ≤ (k : Int) := by omega
    have hk1 : (k : Int) < (l.length : Int) := by omega
    have HE := hid (take_at ht kd x e)
    have HT := hid ht
    obtain ⟨W1, hW1⟩ : ∃ W1, W1 = w.alloc (.cells #[.int .i64 0, .int .i64 0, .int .i64 0, .string ⟨#[]⟩] 58) := ⟨_, rfl⟩
    have HB1 := hid (show Below w.heap.size w W1 by rw [hW1]; exact (Below.refl _ w).alloc (Nat.le_refl _) _)
    have HS1 := hid (show W1.heap[w.heap.size]? = some (.cells #[.int .i64 0, .int .i64 0, .int .i64 0, .string ⟨#[]⟩] 58 (0, 0)) by rw [hW1]; exact alloc_new w _)
    clear hr hc ht q3
    go_enter Tryz.func33, Tryz.ntmps33
    go_upto_region 1 with (fail)
    go_quiet (fail)
    go_upto_region 3 with (fail)
    rw [← hW1]
    clear hW1
    rename Nat => nq
    obtain ⟨W2, hW2⟩ : ∃ W2, W2 = W1.drewN nq := ⟨_, rfl⟩
    rw [← hW2]
    have hb2 : Below w.heap.size w W2 := by rw [hW2]; exact Below.step HB1.out (Below.drewQ _ _)
    have HS2 := hid (show W2.heap[w.heap.size]? = some (.cells #[.int .i64 0, .int .i64 0, .int .i64 0, .string ⟨#[]⟩] 58 (0, 0)) by rw [hW2]; exact ((Below.drewQ W1 nq).block _ (Array.getElem?_eq_some_iff.1 HS1.out).1).trans HS1.out)
    have HB2 := hid hb2
    have hz2 : w.heap.size < W2.heap.size := (Array.getElem?_eq_some_iff.1 HS2.out).1
    obtain ⟨bc, bf⟩ := bcell hb2
    have d0 := (bc p 0 hpz).trans c0
    have d1 := (bc p 1 hpz).trans c1
    have g0 := (bc g (o + k * 4) hg).trans e0
    have g1 := (bc g (o + k * 4 + 1) hg).trans e1
    have g2 := (bc g (o + k * 4 + 2) hg).trans e2
    have g3 := (bc g (o + k * 4 + 3) hg).trans e3
    have fp := (bf p 1 hpz).trans f1
    have hpz2 : p < W2.heap.size := by omega
    have hgz2 : g < W2.heap.size := by omega
    clear hW2 hb2 bc bf c0 c1 c2 f1 e0 e1 e2 e3 HS1 HB1
    go_cut [7] from 24 (fun v7 wx => v7 = .pointer (some ⟨W2.heap.size, 0, none⟩) ∧ Below W2.heap.size W2 wx ∧ wx.heap[W2.heap.size]? = some (.cells #[.int .i64 t.2.kind, .int .i64 t.1, .int .i64 t.2.n, .string (bs t.2.text)] 58 (0, 0)))
    case first =>
      go_region
      all_goals (go_wp2_with fail)
      all_goals (go_meet)
      all_goals exact ⟨rfl, ((Below.refl _ W2).alloc (Nat.le_refl _) _).drew, alloc_new W2 _⟩
    case rest =>
    obtain ⟨rfl, hb3, hs3⟩ := hcut
    rename World => W3
    have y0 : W3.cell? ⟨W2.heap.size, 0, none⟩ = some (.int .i64 t.2.kind) := by simp [World.cell?, hs3]
    have y1 : W3.cell? ⟨W2.heap.size, 1, none⟩ = some (.int .i64 t.1) := by simp [World.cell?, hs3]
    have y2 : W3.cell? ⟨W2.heap.size, 2, none⟩ = some (.int .i64 t.2.n) := by simp [World.cell?, hs3]
    have y3 : W3.cell? ⟨W2.heap.size, 3, none⟩ = some (.string (bs t.2.text)) := by simp [World.cell?, hs3]
    obtain ⟨bc, bf⟩ := bcell hb3
    have e1 := (bc p 1 hpz2).trans d1
    have fp3 := (bf p 1 hpz2).trans fp
    have hpz3 : p < W3.heap.size := Nat.lt_of_lt_of_le hpz2 hb3.size
    have hz3 : W2.heap.size < W3.heap.size := (Array.getElem?_eq_some_iff.1 hs3).1
    have HB3 := hid (Below.step HB2.out hb3)
    have HS3 := hid hs3
    have HQ3 := hid ((hb3.block _ hz2).trans HS2.out)
    have z0 : W3.cell? ⟨w.heap.size, 0, none⟩ = some (.int .i64 0) := by simp [World.cell?, HQ3.out]
    have z1 : W3.cell? ⟨w.heap.size, 1, none⟩ = some (.int .i64 0) := by simp [World.cell?, HQ3.out]
    have z2 : W3.cell? ⟨w.heap.size, 2, none⟩ = some (.int .i64 0) := by simp [World.cell?, HQ3.out]
    have z3 : W3.cell? ⟨w.heap.size, 3, none⟩ = some (.string ⟨#[]⟩) := by simp [World.cell?, HQ3.out]
    have v0 : ∀ j, W3.frozen? ⟨w.heap.size, j, none⟩ = false := fun j => frozen_of_row W3 _ j _ _ HQ3.out
    have hwz3 : w.heap.size < W3.heap.size := by omega
    have n1 : ¬ p = w.heap.size := by omega
    have n2 : ¬ w.heap.size = p := by omega
    clear d0 d1 g0 g1 g2 g3 fp bc bf hb3 hs3
    by_cases r1 : t.2.kind = kd
    · have s1 : ((t.2.kind : Int) != (kd : Int)) = false := by rw [r1]; simp
      by_cases r2 : x = []
      · have s2 : (bs x).toList.isEmpty = true := by rw [r2, ByteArray.toList_eq]; rfl
        have HE2 := hid (HE.out.trans (if_pos ⟨r1, .inl r2⟩))
        clear r1 r2
        go_wp2_with fail
        obtain ⟨o1, o2, o3⟩ := take_out (t := t) (HR.out.below HB3.out) hlt HB3.out HQ3.out hpz rfl
        refine bodyPost_ret (v := tkV t) (results_cell_row rfl _ _ w.heap.size 58 #[.int .i64 t.2.kind, .int .i64 t.1, .int .i64 t.2.n, .string (bs t.2.text)] (0, 0) _ rfl o1 Tryz.underlying58 rfl (by kernel_rfl)) rfl ?_
        rw [HE2.out]
        exact ⟨rfl, o2, o3⟩
      · have s2 : (bs x).toList.isEmpty = false := by
          cases x with
          | nil => exact absurd rfl r2
          | cons c x => rw [ByteArray.toList_eq]; rfl
        by_cases r3 : t.2.text = x
        · have s3 : ((bs t.2.text).toList == (bs x).toList) = true := by rw [name_beq]; exact decide_eq_true r3
          have HE2 := hid (HE.out.trans (if_pos ⟨r1, .inr r3⟩))
          clear r1 r2 r3
          go_wp2_with fail
          obtain ⟨o1, o2, o3⟩ := take_out (t := t) (HR.out.below HB3.out) hlt HB3.out HQ3.out hpz rfl
          refine bodyPost_ret (v := tkV t) (results_cell_row rfl _ _ w.heap.size 58 #[.int .i64 t.2.kind, .int .i64 t.1, .int .i64 t.2.n, .string (bs t.2.text)] (0, 0) _ rfl o1 Tryz.underlying58 rfl (by kernel_rfl)) rfl ?_
          rw [HE2.out]
          exact ⟨rfl, o2, o3⟩
        · have s3 : ((bs t.2.text).toList == (bs x).toList) = false := by rw [name_beq]; exact decide_eq_false r3
          have HE2 := hid (HE.out.trans (if_neg fun h => h.2.elim r2 r3))
          clear r1 r2 r3
          go_wp2_with fail
          refine ⟨rfl, ?_⟩
          rw [HE2.out]
          exact ⟨rfl, HR.out.below HB3.out, Tch.of_below HB3.out _⟩
    · have s1 : ((t.2.kind : Int) != (kd : Int)) = true := by rw [bne_iff_ne]; omega
      have HE2 := hid (HE.out.trans (if_neg fun h => r1 h.1))
      clear r1
      go_wp2_with fail
      refine ⟨rfl, ?_⟩
      rw [HE2.out]
      exact ⟨rfl, HR.out.below HB3.out, Tch.of_below HB3.out _⟩
  · have hkb : ((k : Int) == (l.length : Int)) = true := by rw [beq_iff_eq]; omega
    have HE := hid (take_end hlt kd x e)
    clear q3
    go_enter Tryz.func33, Tryz.ntmps33
    go_upto_region 1 with (fail)
    go_quiet (fail)
    go_wp2_with fail
    refine ⟨rfl, ?_⟩
    rw [HE.out]
    have hb : ∀ q, Below w.heap.size w ((w.alloc (.cells #[.int .i64 0, .int .i64 0, .int .i64 0, .string ⟨#[]⟩] 58)).drewN q) := fun q => Below.step ((Below.refl _ w).alloc (Nat.le_refl _) _) (Below.drewQ _ _)
    exact ⟨rfl, HR.out.below (hb _), Tch.of_below (hb _) _⟩

theorem take_tok (kdI : Int) (kd : Nat) (s : ByteArray) (x : List UInt8) (h1 : kdI = kd) (h2 : s = bs x) (w : World) (p : Nat) (l : List Fa.T) (k e : Nat) (h : RdrW B w p l k e) (hl : l.length ≤ 5000) :
    Calls Tryz.prog 33 #[.pointer (some ⟨p, 0, none⟩), .int .i64 kdI, .string s] w (TakeP B w p l k e (Fa.take kd x e (l.drop k))) := by
  subst h1; subst h2
  exact take_any kd x w p l k e h hl
theorem take_drop {kd : Nat} {x : List UInt8} {e k : Nat} {l r : List Fa.T} {t : Fa.T} (h : Fa.take kd x e (l.drop k) = .ok (t, r)) : r = l.drop (k + 1) ∧ k < l.length ∧ t.2.kind = kd ∧ l[k]? = some t ∧ (x = [] ∨ t.2.text = x) := by
  obtain ⟨h1, h2, h3⟩ := Fa.take_rest h
  have hk : k < l.length := by
    by_cases hk : k < l.length
    · exact hk
    · rw [List.drop_eq_nil_of_le (by omega)] at h1; cases h1
  rw [List.drop_eq_getElem_cons hk] at h1
  simp only [List.cons.injEq] at h1
  exact ⟨h1.2.symm, hk, h2, by rw [← h1.1, List.getElem?_eq_getElem hk], h3⟩

/-- it throws this, and all that was there is as it was but block p -/
def Throws (w : World) (p : Nat) (x : Fa.Fail) (en : Ending) (w' : World) : Prop := en = thrown x ∧ Tch (fun b => b = p) w w'

set_option maxRecDepth 100000 in
theorem check_no (er : Int) (t : Fa.T) (w : World) : Calls Tryz.prog 34 #[.bool false, .int .i64 er, tkV t] w (Gives (.tuple #[]) w) := by
  unfold tkV
  go_enter Tryz.func34, Tryz.ntmps34
  go_wp2
  go_end0
  exact ⟨rfl, (Below.refl _ w).alloc (Nat.le_refl _) _⟩
set_option maxRecDepth 100000 in
theorem check_yes (er : Int) (t : Fa.T) (w : World) : Calls Tryz.prog 34 #[.bool true, .int .i64 er, tkV t] w (fun en w' => en = thrown (er, t.1) ∧ Below w.heap.size w w') := by
  unfold tkV
  go_enter Tryz.func34, Tryz.ntmps34
  go_wp2
  exact ⟨rfl, rfl, (Below.refl _ w).alloc (Nat.le_refl _) _⟩
set_option maxRecDepth 100000 in
theorem flag_any (v : Value) (w : World) : Calls Tryz.prog 31 #[v] w (Same (.tuple #[.int .i64 0, .int .i64 1]) w) := by
  go_enter Tryz.func31, Tryz.ntmps31
  go_wp2
  go_ret2
  exact ⟨rfl, rfl⟩

end Go.Proofs.YteogmlgmodeajaaGreatDoor
