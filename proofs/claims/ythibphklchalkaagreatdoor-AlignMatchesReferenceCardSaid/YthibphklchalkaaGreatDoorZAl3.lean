/-
  align.moves' iterator, as the range over a function meets it. Conditions: lengths.
-/
import Derived.Test.YthibphklchalkaaGreatDoorZMAlA
import Derived.Test.YthibphklchalkaaGreatDoorZMBase
import Derived.RangeFuncBox
import Derived.RangeFuncLeaves
import Derived.Shelf.Abstract
import Derived.Shelf.RegionOpen
import Derived.OwnWalkIn
import Derived.TacticsInMore
import Derived.LoopNIn
import Derived.LoopIn
import Derived.Sort.CutIn
namespace Go.Proofs.YthibphklchalkaaGreatDoor
open Go.RowKit Go.Lib Go.Maps

attribute [local go_sem] Oper.semAt_some

/-- what a round must leave as it is -/
structure MovesKeep (B : Nat) (w : Al.Ws) (fl fr : List (Al.R × Value)) (v : List Value) (W W' : World) : Prop where
  size : W.heap.size ≤ W'.heap.size
  cells : ∀ (q : Nat) (o : Obj), B ≤ q → W.heap[q]? = some o → o.isCells = true → W'.heap[q]? = some o
  words : WordsAt W w fl fr v → WordsAt W' w fl fr v

theorem set_two {W : World} {b : Nat} {x y u z : Value} {t : TypeId} (h : W.heap[b]? = some (.cells #[x, y] t (0, 0))) : ((W.setCell ⟨b, 0, none⟩ u).setCell ⟨b, 1, none⟩ z).drew.heap[b]? = some (.cells #[u, z] t (0, 0)) := by
  show ((W.setCell ⟨b, 0, none⟩ u).setCell ⟨b, 1, none⟩ z).heap[b]? = _
  simp [World.setCell, Array.getElem?_modify, h]

def theRules (w : Al.Ws) (s : Al.St) (fl fr : List (Al.R × Value)) : List (Al.R × Value) := if Al.byLeft w s then fl else fr

/-- the iterator's world between two rounds -/
structure MvW (B b : Nat) (w : Al.Ws) (s : Al.St) (fl fr : List (Al.R × Value)) (v : List Value) (x y : Value) (wr : World) : Prop where
  st : wr.heap[B + 1]? = some (.cells (stC s).toArray 53 (0, 0))
  one : wr.heap[b]? = some (.cells #[x, y] 45 (0, 0))
  words : WordsAt wr w fl fr v

section
variable {B b : Nat} {w : Al.Ws} {s : Al.St} {fl fr : List (Al.R × Value)} {v : List Value} {x y : Value} {wr wr' : World}
theorem MvW.below (h : MvW B b w s fl fr v x y wr) (hb : Below wr.heap.size wr wr') : MvW B b w s fl fr v x y wr' :=
  ⟨(hb.block _ (Array.getElem?_eq_some_iff.1 h.st).1).trans h.st, (hb.block _ (Array.getElem?_eq_some_iff.1 h.one).1).trans h.one, h.words.below hb⟩
theorem MvW.keep (h : MvW B b w s fl fr v x y wr) (hb : MovesKeep B w fl fr v wr wr') (hBb : B < b) : MvW B b w s fl fr v x y wr' :=
  ⟨hb.cells _ _ (by omega) h.st rfl, hb.cells _ _ (by omega) h.one rfl, hb.words h.words⟩
theorem MvW.cell (h : MvW B b w s fl fr v x y wr) (j : Nat) (u : Value) (hu : (stC s)[j]? = some u) : wr.cell? ⟨B + 1, j, none⟩ = some u := by
  simp [World.cell?, h.st, hu]
theorem MvW.cellOne (h : MvW B b w s fl fr v x y wr) (j : Nat) (u : Value) (hu : [x, y][j]? = some u) : wr.cell? ⟨b, j, none⟩ = some u := by
  simp only [World.cell?, h.one]; simpa using hu
end

theorem theRules_map {w : Al.Ws} {s : Al.St} {fl fr : List (Al.R × Value)} (h1 : fl.map Prod.fst = w.left.rules) (h2 : fr.map Prod.fst = w.right.rules) : (theRules w s fl fr).map Prod.fst = (Al.one w s).rules := by
  unfold theRules Al.one; split
  · exact h1
  · exact h2

theorem one_mem {w : Al.Ws} {s : Al.St} {r : Al.R} (h : r ∈ (Al.one w s).rules) : r ∈ w.left.rules ++ w.right.rules := by
  unfold Al.one at h
  rw [List.mem_append]
  split at h
  · exact .inl h
  · exact .inr h

theorem nxMove_cons (w : Al.Ws) (s : Al.St) (F : List (Al.R × Value)) (k : Nat) (p : Al.R × Value) (h : F[k]? = some p) :
    nxMove w s (F.drop k) = match Al.move w s p.1 with
      | some (_, s') => some (#[ruleV p, stV s'], F.drop (k + 1))
      | none => nxMove w s (F.drop (k + 1)) := by
  obtain ⟨hk, he⟩ := List.getElem?_eq_some_iff.1 h
  rw [List.drop_eq_getElem_cons hk, he]
  rfl

set_option maxRecDepth 100000 in
set_option maxHeartbeats 2000000 in
theorem moves_iter (w : Al.Ws) (s : Al.St) (fl fr : List (Al.R × Value)) (v : List Value) (B : Nat) (n : Nat) (hn : 1 ≤ n) :
    IterX Fence.wide n Tryz.prog 35 #[.pointer (some ⟨B + 1, 0, none⟩), .pointer (some ⟨B, 0, none⟩)] none (MovesKeep B w fl fr v) (nxMove w s)
      (fun b W => b = theRules w s fl fr ∧ W.heap[B + 1]? = some (.cells (stC s).toArray 53 (0, 0)) ∧ W.heap[B]? = some (.cells v.toArray 47 (0, 0)) ∧ WordsAt W w fl fr v ∧ w.Good ∧ w.left.letters.length ≤ 1000 ∧ w.right.letters.length ≤ 1000 ∧ s.i ≤ 1000 ∧ s.j ≤ 1000 ∧ ∀ r ∈ w.left.rules ++ w.right.rules, r.from_.length ≤ 12 ∧ r.to_.length ≤ 1000) := by
  intro l J Jx b0 W hJ hJx hY hS h0
  obtain ⟨rfl, hst, hws, hwa, hgood, hl1, hl2, hi1, hj1, hfew⟩ := hS
  refine callsIn_of_wp Tryz.func35 rfl trivial ?_ rfl
  simp only [Tryz.ntmps35, List.size_toArray, List.length_cons, List.length_nil, Nat.reduceAdd, Nat.reduceSub, Array.replicate_succ, Array.replicate_zero, List.push_toArray, List.append_toArray, List.nil_append, List.cons_append]
  have hcell : ∀ j u, (stC s)[j]? = some u → W.cell? ⟨B + 1, j, none⟩ = some u := fun j u hu => by
    simp [World.cell?, hst, hu]
  have HW := hid hwa
  have HW0 := HW
  have H0 := hid h0
  obtain ⟨⟨ll, lr, rl, rr, hv, ⟨al, cl, rfl, -, -, -⟩, ⟨⟨al2, cl2, rfl, -, -, -⟩, -⟩, ⟨ar, cr, rfl, -, -, -⟩, ⟨⟨ar2, cr2, rfl, -, -, -⟩, -⟩⟩, hfl, hfr⟩ := hwa
  have hcelw : ∀ j u, v[j]? = some u → W.cell? ⟨B, j, none⟩ = some u := fun j u hu => by
    simp [World.cell?, hws, hu]
  rw [hv] at hcelw
  have hsz : B + 1 < W.heap.size := (Array.getElem?_eq_some_iff.1 hst).1
  have hsz0 : B < W.heap.size := by omega
  have hsz1 : ¬ B = W.heap.size := by omega
  have hsz2 : ¬ B + 1 = W.heap.size := by omega
  have c0 := hcell 0 _ rfl
  have c1 := hcell 1 _ rfl
  have c2 := hcell 2 _ rfl
  have c3 := hcell 3 _ rfl
  have d0 := hcelw 0 _ rfl
  have d1 := hcelw 1 _ rfl
  have d2 := hcelw 2 _ rfl
  have d3 := hcelw 3 _ rfl
  clear hcell hcelw
  have HS := hid (And.intro hst hws)
  have HV := hid hv
  clear hv
  clear hst hws
  have HF := hid (And.intro hfl hfr)
  clear hfl hfr
  gi_upto_region 0 with (fail)
  gi_cut [4] from 14 (fun v wx => v = .bool (Al.byLeft w s) ∧ wx = W)
  case first =>
    refine wpIn_wide.2 ?_
    have hE := empty_is s.ahead
    have HL := hid (show Al.byLeft w s = (s.right || (s.ahead.isEmpty && decide (s.i < w.left.letters.length))) from rfl)
    have hI : ((s.i : Int) < (w.left.letters.length : Int)) = (s.i < w.left.letters.length) := by simp
    cases hr : s.right with
    | true =>
      rw [hr] at c3
      have hno := hid (show Al.byLeft w s = true by rw [HL.out, hr]; rfl)
      clear hE hI hr
      go_wp2
      go_meet
      case rel => exact ⟨by rw [hno.out], rfl⟩
    | false =>
      rw [hr] at c3
      cases he : s.ahead.isEmpty with
      | false =>
        rw [he] at hE
        have hno := hid (show Al.byLeft w s = false by rw [HL.out, hr, he]; rfl)
        clear hI hr he
        go_wp2
        go_meet
        case rel => exact ⟨by rw [hno.out], rfl⟩
      | true =>
        rw [he] at hE
        have hno := hid (show Al.byLeft w s = decide (s.i < w.left.letters.length) by rw [HL.out, hr, he]; rfl)
        clear hr he
        go_wp2
        go_meet
        case rel =>
          refine ⟨?_, rfl⟩
          rw [hno.out]
  case rest =>
  obtain ⟨rfl, hwc⟩ := hcut
  rw [hwc]
  clear hwc wc
  gi_upto_region 1 with (fail)
  gi_cut [5, 6] from 14 (fun v5 v6 wx => v5 = .pointer (some ⟨W.heap.size, 0, none⟩) ∧ v6 = .int .i64 s.j ∧ Below W.heap.size W wx ∧ wx.heap[W.heap.size]? = some (.cells #[.slice ar w.right.letters.length cr, .slice ar2 fr.length cr2] 45 (0, 0)))
  case first =>
    refine wpIn_wide.2 ?_
    go_region
    go_wp2
    go_meet
    case rel => exact ⟨rfl, rfl, ((Below.refl _ W).alloc (Nat.le_refl _) _).drew, World.alloc_heap_new W _⟩
  case rest =>
  obtain ⟨rfl, rfl, hb1, hk1⟩ := hcut
  have e0 := (hb1.cell (p := ⟨B + 1, 0, none⟩) hsz).trans c0
  have e1 := (hb1.cell (p := ⟨B + 1, 1, none⟩) hsz).trans c1
  have e2 := (hb1.cell (p := ⟨B + 1, 2, none⟩) hsz).trans c2
  have e3 := (hb1.cell (p := ⟨B + 1, 3, none⟩) hsz).trans c3
  have g0 := (hb1.cell (p := ⟨B, 0, none⟩) hsz0).trans d0
  have g1 := (hb1.cell (p := ⟨B, 1, none⟩) hsz0).trans d1
  have g2 := (hb1.cell (p := ⟨B, 2, none⟩) hsz0).trans d2
  have g3 := (hb1.cell (p := ⟨B, 3, none⟩) hsz0).trans d3
  have hz := hb1.size
  have hn1 := (Array.getElem?_eq_some_iff.1 hk1).1
  have m0 : wc.cell? ⟨W.heap.size, 0, none⟩ = some (.slice ar w.right.letters.length cr) := by simp [World.cell?, hk1]
  have m1 : wc.cell? ⟨W.heap.size, 1, none⟩ = some (.slice ar2 fr.length cr2) := by simp [World.cell?, hk1]
  have m2 : wc.frozen? ⟨W.heap.size, 0, none⟩ = false := by simp [World.frozen?, hk1]
  have m3 : wc.frozen? ⟨W.heap.size, 1, none⟩ = false := by simp [World.frozen?, hk1]
  have hk1' := hid hk1
  have hb1' := hid hb1
  clear c0 c1 c2 c3 d0 d1 d2 d3 hk1 hb1 h0 HW
  obtain ⟨b, hb⟩ : ∃ b, b = W.heap.size := ⟨_, rfl⟩
  rw [← hb] at m0 m1 m2 m3 hz hn1 hk1' hsz hsz0 hsz1 hsz2 ⊢
  have hB := hid hb
  clear hb
  rename World => W1
  gi_step
  gi_step
  gi_cut [4, 6] from 14 (fun v4 v6 wx => v4 = .bool (Al.byLeft w s) ∧ v6 = .int .i64 (Al.at_ w s) ∧ Below W.heap.size W wx ∧ ∃ a1 c1 a2 c2, wx.heap[b]? = some (.cells #[.slice a1 (Al.one w s).letters.length c1, .slice a2 (theRules w s fl fr).length c2] 45 (0, 0)) ∧ ∀ W', WordsAt W' w fl fr v → SlOf W' (.slice a1 (Al.one w s).letters.length c1) 1 strC (Al.one w s).letters ∧ RulesAt W' (theRules w s fl fr) (.slice a2 (theRules w s fl fr).length c2))
  case first =>
    refine wpIn_wide.2 ?_
    cases hbl : Al.byLeft w s with
    | true =>
      have HB := hid hbl
      clear hbl
      go_wp2_with fail
      go_region
      go_wp2
      go_meet
      case rel =>
        have hb2 := hb1'.out.setCell (p := ⟨b, 0, none⟩) (by rw [hB.out]; exact Nat.le_refl _) (.slice al w.left.letters.length cl)
        have hb3 := (hb2.setCell (p := ⟨b, 1, none⟩) (by rw [hB.out]; exact Nat.le_refl _) (.slice al2 fl.length cl2)).drew
        unfold Al.one theRules Al.at_
        rw [HB.out]
        refine ⟨rfl, rfl, hb3, al, cl, al2, cl2, ?_, fun W' hwa => ?_⟩
        · exact set_two hk1'.out
        · obtain ⟨⟨ll', lr', rl', rr', e, q1, q2, _, _⟩, _, _⟩ := hwa
          rw [HV.out] at e
          simp only [List.cons.injEq, and_true] at e
          obtain ⟨rfl, rfl, rfl, rfl⟩ := e
          exact ⟨q1, q2⟩
    | false =>
      have HB := hid hbl
      clear hbl
      go_wp2
      go_meet
      case rel =>
        unfold Al.one theRules Al.at_
        rw [HB.out]
        refine ⟨rfl, rfl, hb1'.out, ar, cr, ar2, cr2, hk1'.out, fun W' hwa => ?_⟩
        obtain ⟨⟨ll', lr', rl', rr', e, _, _, q1, q2⟩, _, _⟩ := hwa
        rw [HV.out] at e
        simp only [List.cons.injEq, and_true] at e
        obtain ⟨rfl, rfl, rfl, rfl⟩ := e
        exact ⟨q1, q2⟩
  case rest =>
  obtain ⟨rfl, rfl, hb2, a1, k1, a2, k2, hk2, hsl⟩ := hcut
  rename World => W2
  clear e0 e1 e2 e3 g0 g1 g2 g3 m0 m1 m2 m3 hk1' hb1' hn1 hz W1
  have hj2 := hid (hJ _ _ _ none H0.out (Below.grows hb2 none) (fun r e => by cases e))
  have hw2 := hid (HW0.out.below hb2)
  have hs2 := hid ((hb2.block (B + 1) (by rw [← hB.out]; exact hsz)).trans HS.out.1)
  have hbz := hb2.size
  rw [← hB.out] at hbz
  clear hb2 HS H0 HW0 HV
  clear al cl al2 cl2 ar cr ar2 cr2
  obtain ⟨L, hL⟩ : ∃ L, L = (Al.one w s).letters := ⟨_, rfl⟩
  obtain ⟨F, hF⟩ : ∃ F, F = theRules w s fl fr := ⟨_, rfl⟩
  rw [← hL, ← hF] at hk2 hsl
  rw [← hF] at hj2
  have HL := hid hL
  have HFF := hid hF
  clear hL hF
  have m1 : W2.cell? ⟨b, 1, none⟩ = some (.slice a2 F.length k2) := by simp [World.cell?, hk2]
  have hk2' := hid hk2
  have hsl' := hid hsl
  clear hk2 hsl
  have hmv := hid (MvW.mk (B := B) (b := b) hs2.out hk2'.out hw2.out)
  clear hs2 hw2 hk2'
  gi_wp2_with fail
  gi_loopw [42] (fun i wr => ∃ (k : Nat) (bb : List (Al.R × Value)), k ≤ F.length ∧ i = .int .i64 k ∧ nxMove w s bb = nxMove w s (F.drop k) ∧ J bb wr ∧ MvW B b w s fl fr v (.slice a1 L.length k1) (.slice a2 F.length k2) wr) (fun i _ => F.length - (intOf i).toNat)
  case atStart => exact ⟨0, F, Nat.zero_le _, rfl, rfl, hj2.out, hmv.out⟩
  case round =>
    obtain ⟨k, bb, hk, rfl, hnx, hJb, hm⟩ := hrel
    by_cases hlt : k < F.length
    · obtain ⟨hsL, hsR, hsf⟩ := hsl'.out wr hm.words
      obtain ⟨a2', k2', e', f1, f2, f3⟩ := hsR
      obtain ⟨g, o, rfl, hr⟩ := f3 (by omega)
      cases e'
      obtain ⟨⟨r, fv⟩, hp⟩ : ∃ p, F[k]? = some p := ⟨_, List.getElem?_eq_getElem hlt⟩
      have hfv := hsf _ (List.mem_of_getElem? hp)
      simp only at hfv
      have HFV := hid hfv
      have HSL := hid hsL
      obtain ⟨af, cf, rfl, q1, q2, q3⟩ := hfv
      have hFl : F.length ≤ 9223372036854775807 := by unfold maxLen at f2; omega
      clear q1 q2 q3 f1 f2 f3 hsL hsf
      have hcel := hr.2 k _ hp
      have c0 := hcel 0 _ rfl
      have c1 := hcel 1 _ rfl
      have c2 := hcel 2 _ rfl
      have c3 := hcel 3 _ rfl
      rw [Nat.add_zero] at c0
      have hg := hr.1
      have x0 := hm.cellOne 0 _ rfl
      have x1 := hm.cellOne 1 _ rfl
      have hbw := (Array.getElem?_eq_some_iff.1 hm.one).1
      have hk0 : (0 : Int) ≤ (k : Int) := by omega
      have hk1 : (k : Int) < (F.length : Int) := by omega
      have HM := hid hm
      have HJ := hid hJb
      have HNX := hid (hnx.trans (nxMove_cons w s F k _ hp))
      have HP := hid hp
      clear hcel hr hm hJb hnx hp
      have hmem : r ∈ (Al.one w s).rules := by
        rw [← theRules_map HF.out.1 HF.out.2, ← HFF.out]
        exact List.mem_map_of_mem (f := Prod.fst) (List.mem_of_getElem? HP.out)
      have hne := hid ((hgood.one s).some_ r hmem)
      have hfw := hfew r (one_mem hmem)
      have hLl : L.length ≤ 1000 := by rw [HL.out]; unfold Al.one; split <;> assumption
      have hatl : Al.at_ w s ≤ 1000 := by unfold Al.at_; split <;> assumption
      clear hmem
      obtain ⟨A1, hA1⟩ : ∃ A1, A1 = wr.alloc (.cells #[.int .i64 r.index, .int .i64 r.cost, .slice af r.from_.length cf, .string (bs r.to_)] 59) := ⟨_, rfl⟩
      have hbA : Below wr.heap.size wr A1 := by rw [hA1]; exact (Below.refl _ wr).alloc (Nat.le_refl _) _
      have hkA : A1.heap[wr.heap.size]? = some (.cells #[.int .i64 r.index, .int .i64 r.cost, .slice af r.from_.length cf, .string (bs r.to_)] 59 (0, 0)) := by rw [hA1]; exact World.alloc_heap_new wr _
      have hfit := fits_any L (r, .slice af r.from_.length cf) (Al.at_ w s) (.slice a1 L.length k1) (.slice (some ⟨g, o, none⟩) F.length k2) A1 (HSL.out.below hbA) (HFV.out.below hbA) hne.out (by omega) (by simp only; omega) (by omega)
      have HFIT := hid hfit
      have HA := hid (And.intro hbA hkA)
      clear hfit hbA hkA
      gi_wp2_with fail
      rw [← hA1]
      refine ⟨trivial, ?_⟩
      have HA1 := hid hA1
      clear hA1
      cases hfb : Al.fits L r (Al.at_ w s) with
      | false =>
        have hno := hid (show Al.move w s r = none by unfold Al.move; rw [← HL.out, hfb]; rfl)
        rw [show Al.fits L (r, Value.slice af r.from_.length cf).1 (Al.at_ w s) = false from hfb] at HFIT
        clear hfb
        refine (callsIn_wide.2 HFIT.out).mono ?_
        rintro e A2 ⟨rfl, hb2⟩
        have hbAA := hid (Below.step HA.out.1 hb2)
        clear hb2
        gi_wp2_with fail
        go_roundw
        case rel =>
          refine ⟨k + 1, bb, by omega, by go_num, ?_, hJ _ _ _ none HJ.out (Below.grows hbAA.out none) (fun r e => by cases e), HM.out.below hbAA.out⟩
          rw [HNX.out]
          simp only [hno.out]
        case measure => simp [intOf]; omega
      | true =>
        rw [show Al.fits L (r, Value.slice af r.from_.length cf).1 (Al.at_ w s) = true from hfb] at HFIT
        have HFB := hid hfb
        clear hfb
        refine (callsIn_wide.2 HFIT.out).mono ?_
        rintro e A2 ⟨rfl, hb2⟩
        have hk2 := hid ((hb2.block _ (Array.getElem?_eq_some_iff.1 HA.out.2).1).trans HA.out.2)
        have hbAA := hid (Below.step HA.out.1 hb2)
        have hm2 := HM.out.below hbAA.out
        have e0 := hm2.cell 0 _ rfl
        have e1 := hm2.cell 1 _ rfl
        have hrs : wr.heap.size < A2.heap.size := (Array.getElem?_eq_some_iff.1 hk2.out).1
        have p2 : A2.cell? ⟨wr.heap.size, 2, none⟩ = some (.slice af r.from_.length cf) := by simp [World.cell?, hk2.out]
        clear hb2 x0 x1 c0 c1 c2 c3
        gi_upto_region 8 with (fail)
        gi_cut [9] from 51 (fun v9 wx => v9 = .pointer (some ⟨A2.heap.size, 0, none⟩) ∧ wx = A2.alloc (.cells #[.int .i64 s.i, .int .i64 s.j, .string ⟨#[]⟩, .bool false] 53))
        case first =>
          gi_wp2
          gi_meet
          case rel => exact ⟨rfl, rfl⟩
        case rest =>
        obtain ⟨rfl, hwc⟩ := hcut
        rename World => A3
        have hb3 : Below A2.heap.size A2 A3 := by rw [hwc]; exact (Below.refl _ A2).alloc (Nat.le_refl _) _
        have hk3 : A3.heap[A2.heap.size]? = some (.cells #[.int .i64 s.i, .int .i64 s.j, .string ⟨#[]⟩, .bool false] 53 (0, 0)) := by rw [hwc]; exact World.alloc_heap_new A2 _
        have p2' := (hb3.cell (p := ⟨wr.heap.size, 2, none⟩) hrs).trans p2
        have hB3 := hid (And.intro hb3 hk3)
        have n0 : A3.cell? ⟨A2.heap.size, 0, none⟩ = some (.int .i64 s.i) := by simp [World.cell?, hk3]
        have n1 : A3.cell? ⟨A2.heap.size, 1, none⟩ = some (.int .i64 s.j) := by simp [World.cell?, hk3]
        have n2 : A3.frozen? ⟨A2.heap.size, 0, none⟩ = false := by simp [World.frozen?, hk3]
        have n3 : A3.frozen? ⟨A2.heap.size, 1, none⟩ = false := by simp [World.frozen?, hk3]
        have w1' : IntKind.i64.wrap ((s.i : Int) + (r.from_.length : Int)) = (s.i : Int) + (r.from_.length : Int) := IntWalk.i64_in _ (by omega)
        have w2' : IntKind.i64.wrap ((s.j : Int) + (r.from_.length : Int)) = (s.j : Int) + (r.from_.length : Int) := IntWalk.i64_in _ (by omega)
        clear hb3 hk3 hwc p2
        gi_step
        gi_step
        gi_cut [4, 9] from 51 (fun v4 v9 wx => v4 = .bool (Al.byLeft w s) ∧ v9 = .pointer (some ⟨A2.heap.size, 0, none⟩) ∧ Below A2.heap.size A2 wx ∧ wx.heap[A2.heap.size]? = some (.cells #[.int .i64 ((if Al.byLeft w s then s.i + r.from_.length else s.i : Nat) : Int), .int .i64 ((if Al.byLeft w s then s.j else s.j + r.from_.length : Nat) : Int), .string ⟨#[]⟩, .bool false] 53 (0, 0)))
        case first =>
          refine wpIn_wide.2 ?_
          cases hbl : Al.byLeft w s with
          | true =>
            go_wp2
            go_meet
            case rel =>
              refine ⟨by rw [hbl], rfl, hB3.out.1.setCell (p := ⟨A2.heap.size, 0, none⟩) (Nat.le_refl _) _, ?_⟩
              simp [World.setCell, Array.getElem?_modify, hB3.out.2, hbl]
          | false =>
            go_wp2
            go_meet
            case rel =>
              refine ⟨by rw [hbl], rfl, hB3.out.1.setCell (p := ⟨A2.heap.size, 1, none⟩) (Nat.le_refl _) _, ?_⟩
              simp [World.setCell, Array.getElem?_modify, hB3.out.2, hbl]
        case rest =>
        obtain ⟨rfl, rfl, hb4, hk4⟩ := hcut
        rename World => A4
        clear n0 n1 n2 n3 p2'
        have HB4 := hid (And.intro hb4 hk4)
        have hmx := HM.out.below (Below.step hbAA.out hb4)
        have e2' := hmx.cell 2 _ rfl
        have e3' := hmx.cell 3 _ rfl
        have hmx' := hid hmx
        have hk2x := (hb4.block _ hrs).trans hk2.out
        have p3' : A4.cell? ⟨wr.heap.size, 3, none⟩ = some (.string (bs r.to_)) := by simp [World.cell?, hk2x]
        have hrs4 : wr.heap.size < A4.heap.size := Nat.lt_of_lt_of_le hrs hb4.size
        obtain ⟨i', hi'⟩ : ∃ i', i' = (if Al.byLeft w s then s.i + r.from_.length else s.i) := ⟨_, rfl⟩
        obtain ⟨j', hj'⟩ : ∃ j', j' = (if Al.byLeft w s then s.j else s.j + r.from_.length) := ⟨_, rfl⟩
        rw [← hi', ← hj'] at HB4
        have HIJ := hid (And.intro hi' hj')
        have hAn : A2.heap.size < A4.heap.size := (Array.getElem?_eq_some_iff.1 hk4).1
        clear hb4 hk4 hmx hk2x e0 e1 hm2 hi' hj'
        have hmv2 := hid (show Al.move w s r = (Al.nextOf (Al.byLeft w s) s r).map (fun n => (r, n)) by
          unfold Al.move; rw [← HL.out, if_pos HFB.out])
        have CP := hid (Tryz.strings_CutPrefix (bs s.ahead) (bs r.to_) A4)
        have CP2 := hid (Tryz.strings_CutPrefix (bs r.to_) (bs s.ahead) A4)
        rw [bs_list, bs_list] at CP CP2
        have HX := hid HB4.out
        have z0 : A4.cell? ⟨A2.heap.size, 2, none⟩ = some (.string ⟨#[]⟩) := by simp [World.cell?, HB4.out.2]
        have z1 : A4.cell? ⟨A2.heap.size, 3, none⟩ = some (.bool false) := by simp [World.cell?, HB4.out.2]
        have z2 : A4.frozen? ⟨A2.heap.size, 2, none⟩ = false := by simp [World.frozen?, HB4.out.2]
        have z3 : A4.frozen? ⟨A2.heap.size, 3, none⟩ = false := by simp [World.frozen?, HB4.out.2]
        gi_step
        gi_step
        gi_cut [9] from 51 (fun v9 wx => v9 = .pointer (some ⟨A2.heap.size, 0, none⟩) ∧ ∃ s', Al.move w s r = some (r, s') ∧ Below A2.heap.size A2 wx ∧ wx.heap[A2.heap.size]? = some (.cells (stC s').toArray 53 (0, 0)))
        case first =>
          cases hp1 : r.to_.isPrefixOf s.ahead with
          | true =>
            obtain ⟨q, hq⟩ : ∃ q, q = s.ahead.drop r.to_.length := ⟨_, rfl⟩
            have hE := empty_is q
            have hs' := hid (show Al.move w s r = some (r, ⟨i', j', q, s.right && !q.isEmpty⟩) by
              rw [hmv2.out]; unfold Al.nextOf; simp only; rw [if_pos hp1, ← HIJ.out.1, ← HIJ.out.2, ← hq]; rfl)
            rw [show Lib.hasPrefix s.ahead r.to_ = true from hp1, show Lib.trimPrefix s.ahead r.to_ = q by unfold Lib.trimPrefix; rw [if_pos (show Lib.hasPrefix s.ahead r.to_ = true from hp1), hq]] at CP
            rw [show (⟨q.toArray⟩ : ByteArray) = bs q from rfl] at CP
            clear hp1 hq
            cases hsr : s.right with
            | false =>
              rw [hsr] at e3'
              have hs2 := hid (show Al.move w s r = some (r, ⟨i', j', q, false⟩) by rw [hs'.out, hsr]; rfl)
              clear hsr
              gi_wp2_with fail
              refine ⟨trivial, (callsIn_wide.2 CP.out).mono ?_⟩
              rintro e w' ⟨rfl, rfl⟩
              gi_wp2
              gi_meet
              case rel =>
                refine ⟨rfl, _, hs2.out, (HX.out.1.setCell (p := ⟨A2.heap.size, 2, none⟩) (Nat.le_refl _) _).setCell (p := ⟨A2.heap.size, 3, none⟩) (Nat.le_refl _) _, ?_⟩
                simp [World.setCell, Array.getElem?_modify, HX.out.2, stC]
            | true =>
              rw [hsr] at e3'
              cases hqe : q.isEmpty with
              | false =>
                rw [hqe] at hE
                have hs2 := hid (show Al.move w s r = some (r, ⟨i', j', q, true⟩) by rw [hs'.out, hsr, hqe]; rfl)
                clear hsr hqe
                gi_wp2_with fail
                refine ⟨trivial, (callsIn_wide.2 CP.out).mono ?_⟩
                rintro e w' ⟨rfl, rfl⟩
                gi_wp2
                gi_meet
                case rel =>
                  refine ⟨rfl, _, hs2.out, (HX.out.1.setCell (p := ⟨A2.heap.size, 2, none⟩) (Nat.le_refl _) _).setCell (p := ⟨A2.heap.size, 3, none⟩) (Nat.le_refl _) _, ?_⟩
                  simp [World.setCell, Array.getElem?_modify, HX.out.2, stC]
              | true =>
                rw [hqe] at hE
                have hs2 := hid (show Al.move w s r = some (r, ⟨i', j', q, false⟩) by rw [hs'.out, hsr, hqe]; rfl)
                clear hsr hqe
                gi_wp2_with fail
                refine ⟨trivial, (callsIn_wide.2 CP.out).mono ?_⟩
                rintro e w' ⟨rfl, rfl⟩
                gi_wp2
                gi_meet
                case rel =>
                  refine ⟨rfl, _, hs2.out, (HX.out.1.setCell (p := ⟨A2.heap.size, 2, none⟩) (Nat.le_refl _) _).setCell (p := ⟨A2.heap.size, 3, none⟩) (Nat.le_refl _) _, ?_⟩
                  simp [World.setCell, Array.getElem?_modify, HX.out.2, stC]
          | false =>
            rw [show Lib.hasPrefix s.ahead r.to_ = false from hp1] at CP
            cases hp2 : s.ahead.isPrefixOf r.to_ with
            | true =>
              obtain ⟨q, hq⟩ : ∃ q, q = r.to_.drop s.ahead.length := ⟨_, rfl⟩
              have hs' := hid (show Al.move w s r = some (r, ⟨i', j', q, !Al.byLeft w s⟩) by
                rw [hmv2.out]; unfold Al.nextOf; simp only; rw [if_neg (by rw [hp1]; simp), if_pos hp2, ← HIJ.out.1, ← HIJ.out.2, ← hq]; rfl)
              rw [show Lib.hasPrefix r.to_ s.ahead = true from hp2, show Lib.trimPrefix r.to_ s.ahead = q by unfold Lib.trimPrefix; rw [if_pos (show Lib.hasPrefix r.to_ s.ahead = true from hp2), hq]] at CP2
              rw [show (⟨q.toArray⟩ : ByteArray) = bs q from rfl] at CP2
              clear hp1 hp2 hq
              gi_wp2_with fail
              refine ⟨trivial, (callsIn_wide.2 CP.out).mono ?_⟩
              rintro e w' ⟨rfl, rfl⟩
              gi_wp2_with fail
              refine ⟨trivial, (callsIn_wide.2 CP2.out).mono ?_⟩
              rintro e w'' ⟨rfl, rfl⟩
              gi_wp2
              gi_meet
              case rel =>
                refine ⟨rfl, _, hs'.out, (HX.out.1.setCell (p := ⟨A2.heap.size, 2, none⟩) (Nat.le_refl _) _).setCell (p := ⟨A2.heap.size, 3, none⟩) (Nat.le_refl _) _, ?_⟩
                simp [World.setCell, Array.getElem?_modify, HX.out.2, stC]
            | false =>
              have hno := hid (show Al.move w s r = none by
                rw [hmv2.out]; unfold Al.nextOf; simp only; rw [if_neg (by rw [hp1]; simp), if_neg (by rw [hp2]; simp)]; rfl)
              rw [show Lib.hasPrefix r.to_ s.ahead = false from hp2] at CP2
              clear hp1 hp2
              have hbAA4 := hid (Below.step hbAA.out HX.out.1)
              gi_wp2_with fail
              refine ⟨trivial, (callsIn_wide.2 CP.out).mono ?_⟩
              rintro e w' ⟨rfl, rfl⟩
              gi_wp2_with fail
              refine ⟨trivial, (callsIn_wide.2 CP2.out).mono ?_⟩
              rintro e w'' ⟨rfl, rfl⟩
              gi_wp2_with fail
              go_roundw
              case rel =>
                refine ⟨k + 1, bb, by omega, by go_num, ?_, hJ _ _ _ none HJ.out (Below.grows hbAA4.out none) (fun r e => by cases e), HM.out.below hbAA4.out⟩
                rw [HNX.out]
                simp only [hno.out]
              case measure => simp [intOf]; omega
        case rest =>
        obtain ⟨rfl, s', hmove, hb5, hk5⟩ := hcut
        rename World => A5
        clear e2' e3' p3' z0 z1 z2 z3
        have hb5' := hid (Below.step hbAA.out hb5)
        have hk2y := (hb5.block _ hrs).trans hk2.out
        have t0 : A5.cell? ⟨wr.heap.size, 0, none⟩ = some (.int .i64 r.index) := by simp [World.cell?, hk2y]
        have t1 : A5.cell? ⟨wr.heap.size, 1, none⟩ = some (.int .i64 r.cost) := by simp [World.cell?, hk2y]
        have t2 : A5.cell? ⟨wr.heap.size, 2, none⟩ = some (.slice af r.from_.length cf) := by simp [World.cell?, hk2y]
        have t3 : A5.cell? ⟨wr.heap.size, 3, none⟩ = some (.string (bs r.to_)) := by simp [World.cell?, hk2y]
        have u0 : A5.cell? ⟨A2.heap.size, 0, none⟩ = some (.int .i64 s'.i) := by simp [World.cell?, hk5, stC]
        have u1 : A5.cell? ⟨A2.heap.size, 1, none⟩ = some (.int .i64 s'.j) := by simp [World.cell?, hk5, stC]
        have u2 : A5.cell? ⟨A2.heap.size, 2, none⟩ = some (.string (bs s'.ahead)) := by simp [World.cell?, hk5, stC]
        have u3 : A5.cell? ⟨A2.heap.size, 3, none⟩ = some (.bool s'.right) := by simp [World.cell?, hk5, stC]
        have HNX2 := hid (HNX.out.trans (by rw [hmove]))
        have hJ5 := hJ _ _ _ none HJ.out (Below.grows hb5'.out none) (fun r e => by cases e)
        obtain ⟨fn, tmps, assign, body, hy, hR⟩ := hY bb _ _ A5 HNX2.out hJ5
        clear hk2y hb5 hk5 hJ5
        unfold ruleV ruleC stV stC at hy
        have HMM := hid (HM.out.below hb5'.out)
        gi_wp2_with fail
        refine hR.mono ?_
        rintro e W3 (⟨rfl, hJ3, hk3⟩ | ⟨rfl, hJx3⟩)
        · gi_wp2_with fail
          go_roundw
          case rel => exact ⟨k + 1, F.drop (k + 1), by omega, by go_num, rfl, hJ3, HMM.out.keep hk3 hsz0⟩
          case measure => simp [intOf]; omega
        · gi_wp2
          refine bodyPost_ret (results_none rfl _ _ _) rfl ?_
          exact ⟨⟨_, rfl⟩, .inr ⟨_, hJx3⟩⟩
    · have hke : k = F.length := by omega
      have hnx' := hid (hnx.trans (show nxMove w s (F.drop k) = none by rw [hke, List.drop_length]; rfl))
      gi_wp2_with fail
      go_end0
      exact ⟨⟨_, rfl⟩, .inl ⟨bb, hnx'.out, hJb⟩⟩

end Go.Proofs.YthibphklchalkaaGreatDoor
