/-
  align.costs: the least costs of all states that can be reached. Conditions: lengths.
-/
import Derived.Test.YthibphklchalkaaGreatDoorZAl3
import Derived.Test.YthibphklchalkaaGreatDoorZMAlC
import Derived.Test.YthibphklchalkaaGreatDoorZMBase
import Derived.Deep.Cut
namespace Go.Proofs.YthibphklchalkaaGreatDoor
open Go.RowKit Go.Lib Go.Maps

attribute [local go_sem] Oper.semAt_some

/-- words of a moderate size -/
structure Few (w : Al.Ws) : Prop where
  good : w.Good
  small : w.Small
  rules : (w.left.rules ++ w.right.rules).length ≤ 200
  sizes : ∀ r ∈ w.left.rules ++ w.right.rules, r.from_.length ≤ 12 ∧ r.to_.length ≤ 1000

/-- what the closure has captured -/
structure CostW (w : Al.Ws) (fl fr : List (Al.R × Value)) (v : List Value) (Bk Bw Bf m : Nat) (K : List Al.St) (W : World) : Prop where
  k : W.heap[Bk]? = some (.cells #[.map (some m)] 50 (0, 0))
  w_ : W.heap[Bw]? = some (.cells v.toArray 47 (0, 0))
  f : W.heap[Bf]? = some (.cells #[.func (.func 34) #[] #[.pointer (some ⟨Bk, 0, none⟩), .pointer (some ⟨Bw, 0, none⟩), .pointer (some ⟨Bf, 0, none⟩)]] 95 (0, 0))
  words : WordsAt W w fl fr v
  map : MapF W Tryz.prog 53 m K.length (costsF w K)
  closed : Al.Closed w K

theorem MapF.no_cells {W : World} {P : Program} {k : TypeId} {b n : Nat} {f : Value → Option Value} (h : MapF W P k b n f) : ∃ o : Obj, W.heap[b]? = some o ∧ o.isCells = false := by
  obtain ⟨D, ⟨es, clock, hb, _⟩, _⟩ := h
  exact ⟨_, hb, rfl⟩

theorem WordsAt.but {W W' : World} {w : Al.Ws} {fl fr : List (Al.R × Value)} {v : List Value} {m : Nat} (h : WordsAt W w fl fr v) (hb : But W.heap.size m W W') {om : Obj} (hm : W.heap[m]? = some om) (hmc : om.isCells = false) : WordsAt W' w fl fr v := by
  obtain ⟨⟨ll, lr, rl, rr, e, a, b, c, d⟩, h1, h2⟩ := h
  exact ⟨⟨ll, lr, rl, rr, e, a.but hb hm hmc, ⟨b.1.but hb hm hmc, fun p hp => (b.2 p hp).but hb hm hmc⟩, c.but hb hm hmc, ⟨d.1.but hb hm hmc, fun p hp => (d.2 p hp).but hb hm hmc⟩⟩, h1, h2⟩

section
variable {w : Al.Ws} {fl fr : List (Al.R × Value)} {v : List Value} {Bk Bw Bf m : Nat} {K K' : List Al.St} {W W' : World}

theorem CostW.but (h : CostW w fl fr v Bk Bw Bf m K W) (hb : But W.heap.size m W W') (hm : MapF W' Tryz.prog 53 m K'.length (costsF w K')) (hc : Al.Closed w K') : CostW w fl fr v Bk Bw Bf m K' W' := by
  obtain ⟨om, h1, h2⟩ := h.map.no_cells
  exact ⟨hb.cells h1 h2 h.k rfl, hb.cells h1 h2 h.w_ rfl, hb.cells h1 h2 h.f rfl, h.words.but hb h1 h2, hm, hc⟩

theorem CostW.below (h : CostW w fl fr v Bk Bw Bf m K W) (hb : Below W.heap.size W W') : CostW w fl fr v Bk Bw Bf m K W' :=
  h.but (But.of_below hb m) (h.map.below hb) h.closed
end

section
variable {w : Al.Ws} {fl fr : List (Al.R × Value)} {v : List Value} {Bk Bw Bf m : Nat} {K : List Al.St} {W W' : World}

theorem grown_but {W W' : World} {row : Option Nat} {r : Nat} (hg : W.grownBy W' row) (hr : ∀ q, row = some q → q = r) : But W.heap.size r W W' := But.of_grown hg hr

/-- a record of a loop has changed, or new blocks have come -/
theorem CostW.record {row : Option Nat} (h : CostW w fl fr v Bk Bw Bf m K W) (hg : W.grownBy W' row) (hr : ∀ r, row = some r → r ≠ m ∧ ∃ o : Obj, W.heap[r]? = some o ∧ o.isCells = false) : CostW w fl fr v Bk Bw Bf m K W' := by
  cases row with
  | none => exact h.below ⟨hg.os, hg.tape, hg.output, hg.size, fun k hk => hg.block k hk (by simp)⟩
  | some r =>
    obtain ⟨hne, o, ho, hc⟩ := hr r rfl
    have hb := grown_but (r := r) hg (fun q e => by cases e; rfl)
    exact ⟨hb.cells ho hc h.k rfl, hb.cells ho hc h.w_ rfl, hb.cells ho hc h.f rfl, h.words.but hb ho hc, h.map.kept hg (fun e => hne (by cases e; rfl)), h.closed⟩
end

/-- between two rounds -/
structure WalkI (w : Al.Ws) (fl fr : List (Al.R × Value)) (v : List Value) (Bk Bw Bf m : Nat) (K : List Al.St) (s : Al.St) (W : World) (b : List (Al.R × Value)) (A : World) : Prop where
  ex : ∃ (K' : List Al.St) (h : Int), CostW w fl fr v Bk Bw Bf m K' A ∧ A.heap[W.heap.size + 1]? = some (.cells #[.int .i64 h] 3 (0, 0)) ∧ Al.least w (mvs w s b) h = Al.cost w s ∧ 0 ≤ h ∧ h ≤ Al.endless ∧
    (∀ p ∈ Al.moves w s, p ∈ mvs w s b ∨ p.2 ∈ K') ∧ (∀ x ∈ K, x ∈ K') ∧ (∀ x ∈ K', x ∈ K ∨ Al.meas w x < Al.meas w s)
  st : A.heap[W.heap.size]? = some (.cells (stC s).toArray 53 (0, 0))
  all : ∀ p ∈ mvs w s b, p ∈ Al.moves w s
  sub : ∀ p ∈ b, p ∈ theRules w s fl fr
  but : But W.heap.size m W A

theorem walkI_stays (w : Al.Ws) (fl fr : List (Al.R × Value)) (v : List Value) (Bk Bw Bf m : Nat) (K : List Al.St) (s : Al.St) (W : World) (hm : m < W.heap.size) (B : Nat) (hB : W.heap.size + 2 ≤ B) :
    Stays B none (WalkI w fl fr v Bk Bw Bf m K s W) := by
  rintro b A A' row ⟨⟨K', h, c1, c2, c3⟩, c4, c5, c7, c6⟩ hg hr
  have hr' : ∀ r, row = some r → B ≤ r ∧ ∃ o : Obj, A.heap[r]? = some o ∧ o.isCells = false := fun r e => by
    rcases hr r e with h | h
    · cases h
    · exact h
  have far : ∀ q o, q < B → A.heap[q]? = some o → A'.heap[q]? = some o := fun q o hq ho =>
    (hg.block q (Array.getElem?_eq_some_iff.1 ho).1 (fun e => by have := (hr' q e.symm).1; omega)).trans ho
  refine ⟨⟨K', h, c1.record hg (fun r e => ⟨by have := (hr' r e).1; omega, (hr' r e).2⟩), far _ _ (by omega) c2, c3⟩, far _ _ (by omega) c4, c5, c7, ?_⟩
  refine c6.trans ⟨hg.os, hg.tape, hg.output, hg.size, fun k hk hne => hg.block k (Nat.lt_of_lt_of_le hk c6.size) (fun e => by have := (hr' k e.symm).1; omega)⟩

theorem WordsAt.mem {W : World} {w : Al.Ws} {fl fr : List (Al.R × Value)} {v : List Value} {s : Al.St} (h : WordsAt W w fl fr v) {p : Al.R × Value} (hp : p ∈ theRules w s fl fr) : SlOf W p.2 1 strC p.1.from_ := by
  obtain ⟨⟨ll, lr, rl, rr, e, a, b, c, d⟩, h1, h2⟩ := h
  unfold theRules at hp
  split at hp
  · exact b.2 p hp
  · exact d.2 p hp

/-- what the closure's call ends in -/
def WalkPost (w : Al.Ws) (fl fr : List (Al.R × Value)) (v : List Value) (Bk Bw Bf m : Nat) (K : List Al.St) (s : Al.St) (W : World) (e : Ending) (W' : World) : Prop :=
  e = .returned (.int .i64 (Al.cost w s)) ∧ But W.heap.size m W W' ∧ ∃ K', CostW w fl fr v Bk Bw Bf m K' W' ∧ s ∈ K' ∧ (∀ x ∈ K, x ∈ K') ∧ ∀ x ∈ K', x ∈ K ∨ Al.meas w x ≤ Al.meas w s

theorem MovesKeep.trans {B : Nat} {w : Al.Ws} {fl fr : List (Al.R × Value)} {v : List Value} {W1 W2 W3 : World} (h : MovesKeep B w fl fr v W1 W2) (g : MovesKeep B w fl fr v W2 W3) : MovesKeep B w fl fr v W1 W3 :=
  ⟨Nat.le_trans h.size g.size, fun q o h1 h2 h3 => g.cells q o h1 (h.cells q o h1 h2 h3) h3, fun h1 => g.words (h.words h1)⟩

theorem movesKeep_record (B : Nat) (w : Al.Ws) (fl fr : List (Al.R × Value)) (v : List Value) (W : World) (l : Nat) (o o' : Obj) (hl : W.heap[l]? = some o) (ho : o.isCells = false) : MovesKeep B w fl fr v W (W.putObj l o') := by
  have hb := grown_but (r := l) (grownBy_putObj' W l o') (fun q e => by cases e; rfl)
  exact ⟨hb.size, fun q ob _ h2 h3 => hb.cells hl ho h2 h3, fun h => h.but hb hl ho⟩

set_option maxRecDepth 100000 in
set_option maxHeartbeats 2000000 in
theorem walk_any (w : Al.Ws) (hf : Few w) (fl fr : List (Al.R × Value)) (v : List Value) (Bk Bw Bf m : Nat) : ∀ (n : Nat) (s : Al.St) (K : List Al.St) (W : World), Al.meas w s < n → Al.Ok w s → CostW w fl fr v Bk Bw Bf m K W →
    Calls Tryz.prog 34 #[stV s, .pointer (some ⟨Bk, 0, none⟩), .pointer (some ⟨Bw, 0, none⟩), .pointer (some ⟨Bf, 0, none⟩)] W (WalkPost w fl fr v Bk Bw Bf m K s W) := by
  intro n
  induction n with
  | zero => intro s K W h; omega
  | succ n ih =>
  intro s K W hn hok hC
  obtain ⟨kl, hkl⟩ := st_some s (by have := hok.1.1; have := hf.small.left; omega) (by have := hok.1.2.1; have := hf.small.right; omega) (Al.aheads_len (fun r hr => (hf.sizes r hr).2) hok.2)
  have hIH := hid ih
  clear ih
  obtain ⟨W1, hW1⟩ : ∃ W1, W1 = W.alloc (.cells (stC s).toArray 53) := ⟨_, rfl⟩
  have hb1 : Below W.heap.size W W1 := by rw [hW1]; exact (Below.refl _ W).alloc (Nat.le_refl _) _
  have hC1 := hC.below hb1
  have hs1 : W1.heap[W.heap.size]? = some (.cells (stC s).toArray 53 (0, 0)) := by rw [hW1]; exact World.alloc_heap_new W _
  have hn1 : W.heap.size < W1.heap.size := (Array.getElem?_eq_some_iff.1 hs1).1
  have x0 := (cell_blk hC.k).1
  have x0' := (Array.getElem?_eq_some_iff.1 hC.k).1
  have hget := hC1.map.getOk st_keyed Tryz.underlying50 (zero_int W1) hkl
  by_cases hin : s ∈ K
  · rw [costsF_in hin] at hget
    unfold stV stC at hget ⊢
    unfold stC at hW1
    rw [hW1] at hget
    have HC := hid (And.intro hb1 hC1)
    clear hC1 hb1 hs1 hC hkl
    go_enter Tryz.func34, Tryz.ntmps34
    go_wp2_with fail
    go_ret
    rw [← hW1]
    exact ⟨rfl, But.of_below HC.out.1 m, K, HC.out.2, hin, fun x hx => hx, fun x hx => .inl hx⟩
  · rw [costsF_out hin] at hget
    unfold stV stC at hget ⊢
    have HW1 := hid hW1
    unfold stC at hW1
    rw [hW1] at hget
    have y' := (Array.getElem?_eq_some_iff.1 hC.w_).1
    have hcelw : ∀ j u, v[j]? = some u → W.cell? ⟨Bw, j, none⟩ = some u := fun j u hu => by simp [World.cell?, hC.w_, hu]
    obtain ⟨⟨ll, lr, rl, rr, hv, -⟩, -, -⟩ := hC.words
    rw [hv] at hcelw
    have y0 := hcelw 0 _ rfl
    have y1 := hcelw 1 _ rfl
    have y2 := hcelw 2 _ rfl
    have y3 := hcelw 3 _ rfl
    obtain ⟨W2, hW2⟩ : ∃ W2, W2 = (W.alloc (.cells #[.int .i64 s.i, .int .i64 s.j, .string (bs s.ahead), .bool s.right] 53)).alloc (.cells #[.int .i64 1099511627776] 3) := ⟨_, rfl⟩
    have hb2 : Below W1.heap.size W1 W2 := by rw [hW2, hW1]; exact (Below.refl _ _).alloc (Nat.le_refl _) _
    have hC2 := hid (hC1.below hb2)
    have hs2 := hid ((hb2.block _ hn1).trans hs1)
    have hh2 : W2.heap[W.heap.size + 1]? = some (.cells #[.int .i64 1099511627776] 3 (0, 0)) := by
      rw [hW2]
      have := World.alloc_heap_new (W.alloc (.cells #[.int .i64 s.i, .int .i64 s.j, .string (bs s.ahead), .bool s.right] 53)) (.cells #[.int .i64 1099511627776] 3)
      rwa [World.size_alloc] at this
    have hh2' := hid hh2
    have HB2 := hid (Below.step hb1 hb2)
    have HC := hid (And.intro hb1 hC1)
    have HC0 := hid hC
    have HKL := hid hkl
    have HV := hid hv
    have HD := done_any w s fl fr v W2 hC2.out.words
    unfold stV stC at HD
    rw [hv] at HD
    have HD' := hid HD
    clear hC1 hb1 hs1 hC hkl hcelw hv hb2 hh2 HD
    refine (callsIn_wide (n := 9)).1 ?_
    refine callsIn_of_wp_marks Tryz.func34 rfl trivial ?_ rfl
    simp only [Tryz.ntmps34, List.size_toArray, List.length_cons, List.length_nil, Nat.reduceAdd, Nat.reduceSub, Array.replicate_succ, Array.replicate_zero, List.push_toArray, List.append_toArray, List.nil_append, List.cons_append]
    refine wpIn_wide.2 ?_
    go_upto_region 4 with (fail)
    go_cut [8] from 11 (fun v8 wx => v8 = .pointer (some ⟨W.heap.size + 1, 0, none⟩) ∧ wx = W2)
    case first =>
      go_wp2
      go_meet
      case rel => exact ⟨by simp, by rw [hW2]⟩
    case rest =>
    obtain ⟨rfl, hwc⟩ := hcut
    rw [hwc]
    clear hwc wc
    have z0 := (HB2.out.cell (p := ⟨Bw, 0, none⟩) y').trans y0
    have z1 := (HB2.out.cell (p := ⟨Bw, 1, none⟩) y').trans y1
    have z2 := (HB2.out.cell (p := ⟨Bw, 2, none⟩) y').trans y2
    have z3 := (HB2.out.cell (p := ⟨Bw, 3, none⟩) y').trans y3
    have q0 : W2.cell? ⟨W.heap.size, 0, none⟩ = some (.int .i64 s.i) := by simp [World.cell?, hs2.out, stC]
    have q1 : W2.cell? ⟨W.heap.size, 1, none⟩ = some (.int .i64 s.j) := by simp [World.cell?, hs2.out, stC]
    have q2 : W2.cell? ⟨W.heap.size, 2, none⟩ = some (.string (bs s.ahead)) := by simp [World.cell?, hs2.out, stC]
    have q3 : W2.cell? ⟨W.heap.size, 3, none⟩ = some (.bool s.right) := by simp [World.cell?, hs2.out, stC]
    clear hget hW2 x0 y0 y1 y2 y3 hW1
    go_step
    go_step
    go_cut [8] from 11 (fun v8 wx => v8 = .pointer (some ⟨W.heap.size + 1, 0, none⟩) ∧ Below W.heap.size W wx ∧ CostW w fl fr v Bk Bw Bf m K wx ∧ wx.heap[W.heap.size]? = some (.cells (stC s).toArray 53 (0, 0)) ∧ wx.heap[W.heap.size + 1]? = some (.cells #[.int .i64 (Al.start w s)] 3 (0, 0)))
    case first =>
      cases hd : Al.done w s with
      | true =>
        have HST := hid (show Al.start w s = 0 by unfold Al.start; rw [hd]; rfl)
        rw [hd] at HD'
        clear hd
        go_wp2_with fail
        refine (HD'.out).mono ?_
        rintro e W3 ⟨rfl, hb3⟩
        have hh3 := (hb3.block _ (Array.getElem?_eq_some_iff.1 hh2'.out).1).trans hh2'.out
        have HH3 := hid hh3
        obtain ⟨k0, k1⟩ := cell_blk hh3
        have hs3 := hid ((hb3.block _ (Array.getElem?_eq_some_iff.1 hs2.out).1).trans hs2.out)
        have HB3 := hid (Below.step HB2.out hb3)
        have hC3 := hid (hC2.out.below hb3)
        clear hb3 hh3
        go_wp2
        go_meet
        case rel =>
          have hg := set_grown W3 (W.heap.size + 1) (.int .i64 0)
          refine ⟨rfl, HB3.out.setCell (p := ⟨W.heap.size + 1, 0, none⟩) (by simp) _, ?_, ?_, ?_⟩
          · exact HC0.out.below (HB3.out.setCell (p := ⟨W.heap.size + 1, 0, none⟩) (by simp) _)
          · exact (Below.heap_setCell W3 ⟨W.heap.size + 1, 0, none⟩ _ W.heap.size (by simp)).trans hs3.out
          · rw [HST.out]; exact set_blk HH3.out
      | false =>
        have HST := hid (show Al.start w s = 1099511627776 by unfold Al.start; rw [hd]; rfl)
        rw [hd] at HD'
        clear hd
        go_wp2_with fail
        refine (HD'.out).mono ?_
        rintro e W3 ⟨rfl, hb3⟩
        have hh3 := hid ((hb3.block _ (Array.getElem?_eq_some_iff.1 hh2'.out).1).trans hh2'.out)
        have hs3 := hid ((hb3.block _ (Array.getElem?_eq_some_iff.1 hs2.out).1).trans hs2.out)
        have HB3 := hid (Below.step HB2.out hb3)
        have hC3 := hid (hC2.out.below hb3)
        clear hb3
        go_wp2
        go_meet
        case rel =>
          exact ⟨rfl, HB3.out, hC3.out, hs3.out, by rw [HST.out]; exact hh3.out⟩
    case rest =>
    obtain ⟨rfl, HB3, hC3, hs3, hh3⟩ := hcut
    rename World => W3
    clear z0 z1 z2 z3 q0 q1 q2 q3 hC2 hs2 hh2' HB2 HC HW1 HD' W1 W2 hn1
    have hcelw : ∀ j u, v[j]? = some u → W3.cell? ⟨Bw, j, none⟩ = some u := fun j u hu => by simp [World.cell?, hC3.w_, hu]
    rw [HV.out] at hcelw
    have z0 := hcelw 0 _ rfl
    have z1 := hcelw 1 _ rfl
    have z2 := hcelw 2 _ rfl
    have z3 := hcelw 3 _ rfl
    have q0 : W3.cell? ⟨W.heap.size, 0, none⟩ = some (.int .i64 s.i) := by simp [World.cell?, hs3, stC]
    have q1 : W3.cell? ⟨W.heap.size, 1, none⟩ = some (.int .i64 s.j) := by simp [World.cell?, hs3, stC]
    have q2 : W3.cell? ⟨W.heap.size, 2, none⟩ = some (.string (bs s.ahead)) := by simp [World.cell?, hs3, stC]
    have q3 : W3.cell? ⟨W.heap.size, 3, none⟩ = some (.bool s.right) := by simp [World.cell?, hs3, stC]
    have HS3 := hid (And.intro HB3 (And.intro hC3 (And.intro hs3 hh3)))
    have HMK := hid (moves_mk ll lr rl rr s W3)
    unfold stV stC at HMK
    clear hcelw HB3 hC3 hs3 hh3
    go_wp2_with fail
    refine (HMK.out).mono ?_
    rintro e W4 ⟨rfl, hW4⟩
    have hB : W4.heap.size = W3.heap.size + 2 := by rw [hW4]; simp
    have hb4 : Below W3.heap.size W3 W4 := by rw [hW4]; exact ((Below.refl _ W3).alloc (Nat.le_refl _) _).alloc (by simp) _
    have hw4 : W4.heap[W3.heap.size]? = some (.cells v.toArray 47 (0, 0)) := by
      rw [hW4, HV.out]
      exact (Below.heap_alloc _ _ _ (by simp)).trans (World.alloc_heap_new W3 _)
    have hs4 : W4.heap[W3.heap.size + 1]? = some (.cells (stC s).toArray 53 (0, 0)) := by
      rw [hW4]
      have := World.alloc_heap_new (W3.alloc (.cells #[ll, lr, rl, rr] 47)) (.cells (stC s).toArray 53)
      rw [World.size_alloc] at this
      exact this
    obtain ⟨b3, c3, s3, h3⟩ := HS3.out
    have C4 := hid (And.intro (b3.trans (hb4.mono b3.size)) (And.intro (c3.below hb4) (And.intro ((hb4.block _ (Array.getElem?_eq_some_iff.1 s3).1).trans s3) ((hb4.block _ (Array.getElem?_eq_some_iff.1 h3).1).trans h3))))
    have hW34 := (Array.getElem?_eq_some_iff.1 h3).1
    clear b3 c3 s3 h3 z0 z1 z2 z3 q0 q1 q2 q3 HS3 hW4 hb4
    go_wp2_with fail
    have hm := HC0.out.map.lt
    have hrules : (theRules w s fl fr).map Prod.fst = (Al.one w s).rules := theRules_map C4.out.2.1.words.left C4.out.2.1.words.right
    have hmvs := mvs_all hrules
    refine (wpIn_wide (n := 9)).1 (wp_iter (own := none) rfl (by omega) (gf := 35) (lb := #[.pointer (some ⟨W3.heap.size + 1, 0, none⟩), .pointer (some ⟨W3.heap.size, 0, none⟩)]) rfl trivial (enters_of Tryz.func35 (by kernel_rfl) rfl)
      (moves_iter w s fl fr v W3.heap.size 8 (by omega)) (theRules w s fl fr) (fun r e => by cases e)
      (fun A hA => ?st) (fun b vals b' h => ?ps) (fun h1 h2 => h1.trans h2) (fun A l o o' _ hl ho => movesKeep_record _ _ _ _ _ A l o o' hl ho)
      (WalkI w fl fr v Bk Bw Bf m K s W) (fun _ _ _ => False) ?hI ?hIx ?h0 ?hround ?hdone ?hstop)
    case st =>
      exact ⟨rfl, (hA.block _ (Array.getElem?_eq_some_iff.1 hs4).1).trans hs4, (hA.block _ (Array.getElem?_eq_some_iff.1 hw4).1).trans hw4, C4.out.2.1.words.below hA, hf.good,
        by have := hf.small.left; omega, by have := hf.small.right; omega, by have := hf.small.left; have := hok.1.1; omega, by have := hf.small.right; have := hok.1.2.1; omega, hf.sizes⟩
    case ps =>
      obtain ⟨p, s', _, rfl, _⟩ := nx_some h
      rfl
    case hI => exact walkI_stays w fl fr v Bk Bw Bf m K s W hm _ (by omega)
    case hIx => intro c b A A' row h; exact h.elim
    case h0 =>
      refine ⟨⟨K, Al.start w s, C4.out.2.1, C4.out.2.2.2, by rw [hmvs]; exact (Al.cost_eq hf.good hok.1).symm, ?_, ?_, fun p hp => .inl (by rw [hmvs]; exact hp), fun x hx => hx, fun x hx => .inl hx⟩, C4.out.2.2.1, fun p hp => by rw [hmvs] at hp; exact hp, fun p hp => hp, But.of_below C4.out.1 m⟩
      · unfold Al.start Al.endless; split <;> omega
      · unfold Al.start Al.endless; split <;> omega
    case hstop => intro D c b A hD hx; exact hx.elim
    case hdone =>
      rw [hB]
      intro D b A hD hnx hi hK
      obtain ⟨⟨K', h, C3, hh3, hleast, hge, hle, hdone, hKK, hKm⟩, hst3, hall3, hsub3, hbut3⟩ := hi
      have hmv0 := nx_none hnx
      rw [hmv0] at hleast hdone
      have hhc : h = Al.cost w s := hleast
      subst hhc
      have hclosed : Al.Closed w (s :: K') := by
        refine ⟨fun x hx => ?_, fun x hx p hp => ?_, ?_⟩
        · rcases List.mem_cons.1 hx with rfl | hx
          · exact hok
          · exact C3.closed.ok x hx
        · rcases List.mem_cons.1 hx with rfl | hx
          · rcases hdone p hp with h1 | h1
            · simp at h1
            · exact List.mem_cons_of_mem _ h1
          · exact List.mem_cons_of_mem _ (C3.closed.on x hx p hp)
        · refine List.nodup_cons.2 ⟨fun hx => ?_, C3.closed.once⟩
          rcases hKm s hx with h1 | h1
          · exact hin h1
          · omega
      have hlen := hclosed.few hf.small.left hf.small.right hf.rules (fun r hr => (hf.sizes r hr).2)
      rw [List.length_cons] at hlen
      have x0 := (cell_blk C3.k).1
      obtain ⟨g0, g1⟩ := cell_blk hh3
      have q0 : A.cell? ⟨W.heap.size, 0, none⟩ = some (.int .i64 s.i) := by simp [World.cell?, hst3, stC]
      have q1 : A.cell? ⟨W.heap.size, 1, none⟩ = some (.int .i64 s.j) := by simp [World.cell?, hst3, stC]
      have q2 : A.cell? ⟨W.heap.size, 2, none⟩ = some (.string (bs s.ahead)) := by simp [World.cell?, hst3, stC]
      have q3 : A.cell? ⟨W.heap.size, 3, none⟩ = some (.bool s.right) := by simp [World.cell?, hst3, stC]
      have H3 := hid (And.intro C3 (And.intro hh3 (And.intro hbut3 (And.intro hclosed hK))))
      have hmap := C3.map
      have HK1 := hid hKK
      have HK2 := hid hKm
      clear C3 hh3 hst3 hleast hdone hKK hKm hall3 hsub3 hbut3 hclosed hK hnx hmv0
      unfold stV stC at HKL
      have hlt := hid (Array.getElem?_eq_some_iff.1 H3.out.2.1).1
      have hkeep : Hid (∀ X : World, A.grownBy X (some m) → X.cell? ⟨W.heap.size + 1, 0, none⟩ = some (.int .i64 (Al.cost w s))) := fun X hg => by
        refine (World.cell?_of_block (a := ⟨W.heap.size + 1, 0, none⟩) (hg.block (W.heap.size + 1) hlt.out ?_)).trans g0
        intro e
        have := Option.some.inj e
        omega
      go_wp2_with (at_mapUpdate; refine wpList_put _ rfl _ _ _ 50 3 rfl st_keyed Tryz.underlying50 rfl hmap (by unfold maxLen; omega) _ _ kl rfl rfl HKL.out (costsF w (s :: K')) costsF_cons.1 costsF_cons.2 ?_; intro A5 hM5 hg5; have g5 := hkeep.out _ hg5)
      obtain ⟨C3, hh3, hbut3, hclosed, hK⟩ := H3.out
      have hK5 := (hg5.block D (Array.getElem?_eq_some_iff.1 hK).1 (by intro e; have := Option.some.inj e; omega)).trans hK
      refine ⟨by simp, .inl ⟨_, _, rfl, run_takeDeferred hK5, _, results_tmp rfl _ _ _, ?_⟩⟩
      have hbW : But W.heap.size m W A5 := hbut3.trans ((grown_but (r := m) hg5 (fun q e => by cases e; rfl)).mono hbut3.size)
      have hrec := grownBy_putObj' A5 D (.deferred none)
      have hbR : But W.heap.size m W (A5.putObj D (.deferred none)) := hbW.trans ⟨hrec.os, hrec.tape, hrec.output, hrec.size, fun k hk hne => hrec.block k (Nat.lt_of_lt_of_le hk hbW.size) (fun e => by have := Option.some.inj e; omega)⟩
      have hmR := hM5.kept hrec (fun e => by have := Option.some.inj e; omega)
      refine ⟨rfl, hbR, s :: K', HC0.out.but hbR hmR hclosed, List.mem_cons_self, fun x hx => List.mem_cons_of_mem _ (HK1.out x hx), fun x hx => ?_⟩
      rcases List.mem_cons.1 hx with rfl | hx
      · exact .inr (Nat.le_refl _)
      · rcases HK2.out x hx with h1 | h1
        · exact .inl h1
        · exact .inr (Nat.le_of_lt h1)
    case hround =>
      intro l b vals b' A hl hlo hnx hi
      obtain ⟨⟨r, fv⟩, s', hpb, rfl, hmv, hsub⟩ := nx_some hnx
      have hfv := (hi.ex.choose_spec.choose_spec.1).words.mem (hi.sub _ hpb)
      simp only at hfv
      obtain ⟨af, cf, rfl, -, -, -⟩ := hfv
      have HNX := hid hnx
      have HMV := hid hmv
      have HSUB := hid hsub
      have HI := hid hi
      have HLO := hid hlo
      unfold ruleV ruleC stV stC
      clear hnx hmv hsub hi hpb hlo
      gi_wp2_with fail
      obtain ⟨A2, hA2⟩ : ∃ A2, A2 = (A.alloc (.cells #[.int .i64 r.index, .int .i64 r.cost, .slice af r.from_.length cf, .string (bs r.to_)] 59)).alloc (.cells #[.int .i64 s'.i, .int .i64 s'.j, .string (bs s'.ahead), .bool s'.right] 53) := ⟨_, rfl⟩
      rw [← hA2]
      have hbA : Below A.heap.size A A2 := by rw [hA2]; exact ((Below.refl _ A).alloc (Nat.le_refl _) _).alloc (by simp) _
      have hr2 : A2.heap[A.heap.size]? = some (.cells #[.int .i64 r.index, .int .i64 r.cost, .slice af r.from_.length cf, .string (bs r.to_)] 59 (0, 0)) := by
        rw [hA2]; exact (Below.heap_alloc _ _ _ (by simp)).trans (World.alloc_heap_new A _)
      have hn2 : A2.heap[A.heap.size + 1]? = some (.cells #[.int .i64 s'.i, .int .i64 s'.j, .string (bs s'.ahead), .bool s'.right] 53 (0, 0)) := by
        rw [hA2]
        have := World.alloc_heap_new (A.alloc (.cells #[.int .i64 r.index, .int .i64 r.cost, .slice af r.from_.length cf, .string (bs r.to_)] 59)) (.cells #[.int .i64 s'.i, .int .i64 s'.j, .string (bs s'.ahead), .bool s'.right] 53)
        rwa [World.size_alloc] at this
      clear hA2
      refine ⟨⟨hbA.size, fun q o hq ho hn => (hbA.block q (Array.getElem?_eq_some_iff.1 ho).1).trans ho⟩, ⟨hbA.size, fun q o _ h _ => (hbA.block q (Array.getElem?_eq_some_iff.1 h).1).trans h, fun h => h.below hbA⟩, fun A3 hg3 => ?_⟩
      obtain ⟨ol, hol, hoc⟩ := HLO.out
      have hol2 := (hbA.block l (Array.getElem?_eq_some_iff.1 hol).1).trans hol
      have hI2 := walkI_stays w fl fr v Bk Bw Bf m K s W hm W4.heap.size (by omega) b A A2 none HI.out (Below.grows hbA none) (fun r e => by cases e)
      have hI3 := walkI_stays w fl fr v Bk Bw Bf m K s W hm W4.heap.size (by omega) b A2 A3 (some l) hI2 hg3 (fun r e => by cases e; exact .inr ⟨by omega, _, hol2, hoc⟩)
      have hbut := grown_but (r := l) hg3 (fun q e => by cases e; rfl)
      have hr3 := hbut.cells hol2 hoc hr2 rfl
      have hn3 := hbut.cells hol2 hoc hn2 rfl
      clear hI2 hbut hr2 hn2 hol2
      obtain ⟨⟨K', h, C3, hh3, hleast, hge, hle, hdone, hKK, hKm⟩, hst3, hall3, hsub3, hbut3⟩ := hI3
      have p0 := (cell_blk hh3).1
      have pf := (cell_blk C3.f).1
      have pc : A3.cell? ⟨A.heap.size, 1, none⟩ = some (.int .i64 r.cost) := by simp [World.cell?, hr3]
      have n0 : A3.cell? ⟨A.heap.size + 1, 0, none⟩ = some (.int .i64 s'.i) := by simp [World.cell?, hn3]
      have n1 : A3.cell? ⟨A.heap.size + 1, 1, none⟩ = some (.int .i64 s'.j) := by simp [World.cell?, hn3]
      have n2 : A3.cell? ⟨A.heap.size + 1, 2, none⟩ = some (.string (bs s'.ahead)) := by simp [World.cell?, hn3]
      have n3 : A3.cell? ⟨A.heap.size + 1, 3, none⟩ = some (.bool s'.right) := by simp [World.cell?, hn3]
      have hmem : (r, s') ∈ Al.moves w s := hall3 _ (by rw [HMV.out]; exact List.mem_cons_self)
      obtain ⟨hok', hme, -⟩ := Al.move_step hf.good hmem hok.1
      have hCall := hid (hIH.out s' K' A3.drew (by omega) (Al.ok_step hf.good hmem hok) (C3.below (Below.refl _ A3).drew))
      have HH := hid (And.intro C3 (And.intro hh3 (And.intro hst3 (And.intro hr3 hn3))))
      clear C3 hh3 hst3 hr3 hn3
      gi_wp2_with fail
      refine round_heldS (S := TwoS 8 8 (fun X => X.cell? ⟨W.heap.size + 1, 0, none⟩ = some (.int .i64 h) ∧ X.cell? ⟨A.heap.size, 1, none⟩ = some (.int .i64 r.cost) ∧ X.cell? ⟨Bf, 0, none⟩ = some (.func (.func 34) #[] #[.pointer (some ⟨Bk, 0, none⟩), .pointer (some ⟨Bw, 0, none⟩), .pointer (some ⟨Bf, 0, none⟩)]))
        (fun X => X.cell? ⟨A.heap.size + 1, 0, none⟩ = some (.int .i64 s'.i) ∧ X.cell? ⟨A.heap.size + 1, 1, none⟩ = some (.int .i64 s'.j) ∧ X.cell? ⟨A.heap.size + 1, 2, none⟩ = some (.string (bs s'.ahead)) ∧ X.cell? ⟨A.heap.size + 1, 3, none⟩ = some (.bool s'.right))) (by kernel_rfl) (by kernel_rfl) (fun ⟨_, _, h⟩ => h) ?_
      simp only [List.size_toArray, List.length_cons, List.length_nil, Nat.reduceAdd]
      intro hc
      have S0 : TwoS 8 8 (fun X => X.cell? ⟨W.heap.size + 1, 0, none⟩ = some (.int .i64 h) ∧ X.cell? ⟨A.heap.size, 1, none⟩ = some (.int .i64 r.cost) ∧ X.cell? ⟨Bf, 0, none⟩ = some (.func (.func 34) #[] #[.pointer (some ⟨Bk, 0, none⟩), .pointer (some ⟨Bw, 0, none⟩), .pointer (some ⟨Bf, 0, none⟩)]))
        (fun X => X.cell? ⟨A.heap.size + 1, 0, none⟩ = some (.int .i64 s'.i) ∧ X.cell? ⟨A.heap.size + 1, 1, none⟩ = some (.int .i64 s'.j) ∧ X.cell? ⟨A.heap.size + 1, 2, none⟩ = some (.string (bs s'.ahead)) ∧ X.cell? ⟨A.heap.size + 1, 3, none⟩ = some (.bool s'.right)) (Array.replicate 9 false) A3.drew := ⟨.inr ⟨p0, pc, pf⟩, .inr ⟨n0, n1, n2, n3⟩⟩
      refine wpAnyS_take (i := 0) (v := .int .i64 h) rfl (by kernel_rfl) (by kernel_rfl) (by kernel_rfl) (fun _ _ _ h => h) (fun _ _ => TwoS.set_ (by decide) (by decide) _ _) hc (by rfl) (fun wx hx => ?_) S0 (fun hc S0 => ?_)
      · obtain ⟨g, -, -⟩ := hx.left (by kernel_rfl)
        go_simp
      simp only [Act.put, List.setIfInBounds_toArray]
      refine wpAnyS_take (i := 1) (v := .pointer (some ⟨A.heap.size, 1, none⟩)) rfl (by kernel_rfl) (by kernel_rfl) (by kernel_rfl) (fun _ _ _ h => h) (fun _ _ => TwoS.set_ (by decide) (by decide) _ _) hc (by rfl) (fun wx hx => ?_) S0 (fun hc S0 => ?_)
      · go_simp
      simp only [Act.put]
      refine wpAnyS_take (i := 2) (v := .int .i64 r.cost) rfl (by kernel_rfl) (by kernel_rfl) (by kernel_rfl) (fun _ _ _ h => h) (fun _ _ => TwoS.set_ (by decide) (by decide) _ _) hc (by rfl) (fun wx hx => ?_) S0 (fun hc S0 => ?_)
      · obtain ⟨-, g, -⟩ := hx.left (by kernel_rfl)
        go_simp
      simp only [Act.put]
      refine wpAnyS_take (i := 3) (v := .func (.func 34) #[] #[.pointer (some ⟨Bk, 0, none⟩), .pointer (some ⟨Bw, 0, none⟩), .pointer (some ⟨Bf, 0, none⟩)]) rfl (by kernel_rfl) (by kernel_rfl) (by kernel_rfl) (fun _ _ _ h => h) (fun _ _ => TwoS.set_ (by decide) (by decide) _ _) hc (by rfl) (fun wx hx => ?_) S0 (fun hc S0 => ?_)
      · obtain ⟨-, -, g⟩ := hx.left (by kernel_rfl)
        go_simp
      simp only [Act.put]
      refine wpAnyS_take (i := 4) (v := .agg #[.int .i64 s'.i, .int .i64 s'.j, .string (bs s'.ahead), .bool s'.right]) rfl (by kernel_rfl) (by kernel_rfl) (by kernel_rfl) (fun _ _ _ h => h) (fun _ _ => TwoS.set_ (by decide) (by decide) _ _) hc (by rfl) (fun wx hx => ?_) S0 (fun hc S0 => ?_)
      · obtain ⟨g0, g1, g2, g3⟩ := hx.right (by kernel_rfl)
        go_simp
      simp only [Act.put]
      refine wpAnyS_one (i := 5) rfl (by kernel_rfl) (by rfl) hc (fun Kx hK => ?_)
      go_simp
      obtain ⟨om, hom, homc⟩ := HH.out.1.map.no_cells
      unfold stV stC at hCall
      refine (hCall.out).mono ?_
      rintro e A5 ⟨rfl, hbut5, K2, C5, hin2, hsub2, hmeas2⟩
      obtain ⟨C3, hh3, hst3, hr3, hn3⟩ := HH.out
      have hh5 := hbut5.cells hom homc hh3 rfl
      have hst5 := hbut5.cells hom homc hst3 rfl
      have hr5 := hbut5.cells hom homc hr3 rfl
      have hn5 := hbut5.cells hom homc hn3 rfl
      obtain ⟨g0, g1⟩ := cell_blk hh5
      have hrc := hf.good.one s |>.cost r (Al.mem_moves.1 hmem).1
      have hc0 := Al.cost_nonneg hf.good _ s' (Nat.le_refl _) hok'
      have hc1 := Al.cost_le hf.good hok'
      have hwrap : IntKind.i64.wrap (r.cost + Al.cost w s') = r.cost + Al.cost w s' := IntWalk.i64_in _ (by unfold Al.endless at hc1; omega)
      have S5 := hid (And.intro (And.intro g0 (And.intro (show A5.cell? ⟨A.heap.size, 1, none⟩ = some (.int .i64 r.cost) by simp [World.cell?, hr5]) (cell_blk C5.f).1))
        (And.intro (show A5.cell? ⟨A.heap.size + 1, 0, none⟩ = some (.int .i64 s'.i) by simp [World.cell?, hn5]) (And.intro (show A5.cell? ⟨A.heap.size + 1, 1, none⟩ = some (.int .i64 s'.j) by simp [World.cell?, hn5]) (And.intro (show A5.cell? ⟨A.heap.size + 1, 2, none⟩ = some (.string (bs s'.ahead)) by simp [World.cell?, hn5]) (show A5.cell? ⟨A.heap.size + 1, 3, none⟩ = some (.bool s'.right) by simp [World.cell?, hn5])))))
      refine hK.out _ _ ⟨.inr S5.out.1, .inr S5.out.2⟩ (fun hc => ?_)
      clear hK Kx
      have F5 := hid (And.intro hbut5 (And.intro C5 (And.intro hst5 hh5)))
      clear hbut5 C5 hst5 hr5 hn5 hr3 hn3 C3 hh3 hst3
      refine wpAnyS_one (i := 6) rfl (by kernel_rfl) (by rfl) hc (fun Kx hK => ?_)
      go_simp
      refine hK.out _ _ ⟨.inr S5.out.1, .inr S5.out.2⟩ (fun hc => ?_)
      clear hK Kx
      refine wpAnyS_one (i := 7) rfl (by kernel_rfl) (by rfl) hc (fun Kx hK => ?_)
      go_simp
      refine hK.out _ _ ⟨.inr S5.out.1, .inr S5.out.2⟩ (fun hc => ?_)
      clear hK Kx
      refine wpAnyS_one (i := 8) rfl (by kernel_rfl) (by rfl) hc (fun Kx hK => ?_)
      go_simp
      refine hK.out _ _ ⟨.inl rfl, .inl rfl⟩ (fun hc => ?_)
      clear hK Kx
      refine wpAnyS_done (by kernel_rfl) ?_ _
      obtain ⟨h', hh'⟩ : ∃ h', h' = min h (r.cost + Al.cost w s') := ⟨_, rfl⟩
      rw [← hh']
      obtain ⟨A6, hA6⟩ : ∃ A6, A6 = A5.setCell ⟨W.heap.size + 1, 0, none⟩ (.int .i64 h') := ⟨_, rfl⟩
      rw [← hA6]
      have HA6 := hid hA6
      have HH' := hid hh'
      clear hA6 hh' g0 g1 p0 pf pc n0 n1 n2 n3 S5 S0 hc
      gi_wp2
      obtain ⟨hbut5, C5, hst5, hh5⟩ := F5.out
      obtain ⟨C3, hh3, hst3, -, -⟩ := HH.out
      have hset : ∀ q, q ≠ W.heap.size + 1 → A6.heap[q]? = A5.heap[q]? := fun q h1 => by
        rw [HA6.out]; exact Below.heap_setCell A5 ⟨W.heap.size + 1, 0, none⟩ _ q h1
      have hsz6 : A6.heap.size = A5.heap.size := by rw [HA6.out]; simp [World.setCell]
      have hb56 : Below W.heap.size A5 A6 := by rw [HA6.out]; exact (Below.refl _ A5).setCell (p := ⟨W.heap.size + 1, 0, none⟩) (by simp) _
      have hW3 : W.heap.size ≤ A3.heap.size := hbut3.size
      have hd3 : But W.heap.size m A3 A3.drew := But.of_below ((Below.refl _ A3).drew.mono hW3) m
      have hbutW : But W.heap.size m W A6 := ((hbut3.trans hd3).trans (hbut5.mono hW3)).trans (But.of_below hb56 m)
      have hm6 : MapF A6 Tryz.prog 53 m K2.length (costsF w K2) := by
        rw [HA6.out]; exact C5.map.kept (set_grown A5 (W.heap.size + 1) _) (by intro e; cases e; omega)
      have C6 := HC0.out.but hbutW hm6 C5.closed
      have hsz35 : A3.heap.size ≤ A5.heap.size := hbut5.size
      refine ⟨⟨by omega, fun q o hq ho hn => ?_⟩, ⟨by omega, fun q o hq ho hn => ?_, fun _ => C6.words⟩, ⟨⟨K2, h', C6, ?_, ?_, ?_, ?_, ?_, fun x hx => hsub2 x (hKK x hx), fun x hx => ?_⟩, ?_, fun p hp => hall3 p (by rw [HMV.out]; exact List.mem_cons_of_mem _ hp), fun p hp => hsub3 p (HSUB.out p hp), hbutW⟩⟩
      · rw [hset q (by omega)]
        exact (hbut5.block q (Array.getElem?_eq_some_iff.1 ho).1 (by omega)).trans ho
      · rw [hset q (by omega)]
        exact hbut5.cells hom homc ho hn
      · rw [HA6.out]; exact set_blk hh5
      · rw [← hleast, HMV.out, HH'.out]; rfl
      · rw [HH'.out]; omega
      · rw [HH'.out]; omega
      · intro p hp
        rcases hdone p hp with h1 | h1
        · rw [HMV.out, List.mem_cons] at h1
          rcases h1 with rfl | h1
          · exact .inr hin2
          · exact .inl h1
        · exact .inr (hsub2 _ h1)
      · rcases hmeas2 x hx with h1 | h1
        · exact hKm x h1
        · exact .inr (by omega)
      · rw [hset _ (by omega)]; exact hst5

end Go.Proofs.YthibphklchalkaaGreatDoor
