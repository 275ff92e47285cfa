/-
  The reference's moves of a state. Conditions: lengths.
-/
import Derived.Test.YthibphklchalkaaGreatDoorZMRr
import Derived.Test.YthibphklchalkaaGreatDoorZMBase
import Derived.Deep.Cut
import Derived.Deep.CutRange
namespace Al

/-- the words, the rules as the table has them -/
def wsOf (t : Rw.Table) (a : Int) (L : List (List UInt8)) (b : Int) (R : List (List UInt8)) : Ws := ⟨⟨L, rulesFrom a 0 t.rules⟩, ⟨R, rulesFrom b 0 t.rules⟩⟩

/-- the moves by the first rules -/
def mvsTo (w : Ws) (s : St) (K : Int) (l : List Rw.Rule) : List (R × St) := (rulesFrom K 0 l).filterMap (move w s)

section
variable {w : Ws} {s : St} {K : Int} {l : List Rw.Rule} {k : Nat} {x : Rw.Rule}
theorem mvs_step (hx : l[k]? = some x) : mvsTo w s K (l.take (k + 1)) = mvsTo w s K (l.take k) ++ (rulesFrom K k [x]).filterMap (move w s) := by
  have hk := (List.getElem?_eq_some_iff.1 hx).1
  have ht : l.take (k + 1) = l.take k ++ [x] := by rw [List.take_add_one, hx]; rfl
  unfold mvsTo
  rw [ht, rulesFrom_append, List.filterMap_append, List.length_take, Nat.min_eq_left (by omega), Nat.zero_add]
theorem mvs_other (hx : l[k]? = some x) (h : ¬ x.script = K) : mvsTo w s K (l.take (k + 1)) = mvsTo w s K (l.take k) := by
  rw [mvs_step hx]
  unfold rulesFrom
  rw [if_neg h]
  simp [rulesFrom]
theorem mvs_unfit (hx : l[k]? = some x) (h : x.script = K) (hf : fitN K x.from_ (one w s).letters (at_ w s) = none) : mvsTo w s K (l.take (k + 1)) = mvsTo w s K (l.take k) := by
  rw [mvs_step hx]
  unfold rulesFrom
  rw [if_pos h]
  unfold fitN at hf
  split at hf
  · rename_i e; simp only [e, rulesFrom, List.filterMap_nil, List.append_nil]
  · rename_i f e
    have hn : fits (one w s).letters ⟨k, x.cost, f, x.to_⟩ (at_ w s) = false := by
      unfold fits
      split at hf
      · cases hf
      · rename_i h; rw [Bool.not_eq_true] at h; exact h
    simp only [e, rulesFrom, List.filterMap_cons, List.filterMap_nil, move, hn]
    simp
theorem mvs_fit (hx : l[k]? = some x) (h : x.script = K) {n : Nat} (hf : fitN K x.from_ (one w s).letters (at_ w s) = some n) : ∃ r : R, r.index = k ∧ r.cost = x.cost ∧ r.to_ = x.to_ ∧ r.from_.length = n ∧ n ≤ (one w s).letters.length ∧
    mvsTo w s K (l.take (k + 1)) = mvsTo w s K (l.take k) ++ (match nextOf (byLeft w s) s r with | some n => [(r, n)] | none => []) := by
  unfold fitN at hf
  split at hf
  · cases hf
  · rename_i f e
    split at hf
    · rename_i hh
      cases hf
      have hy : fits (one w s).letters ⟨k, x.cost, f, x.to_⟩ (at_ w s) = true := hh
      have hle := fits_le hy
      refine ⟨⟨k, x.cost, f, x.to_⟩, rfl, rfl, rfl, rfl, by simp only at hle; omega, ?_⟩
      rw [mvs_step hx]
      unfold rulesFrom
      rw [if_pos h]
      simp only [e, rulesFrom, List.filterMap_cons, List.filterMap_nil, move, hy, if_true]
      cases nextOf (byLeft w s) s ⟨k, x.cost, f, x.to_⟩ <;> rfl
    · cases hf
end
end Al
namespace Go.Proofs.YthibphklchalkaaGreatDoor
open Go.RowKit Go.Lib Go.Maps

theorem Tryz.infoMove : (Tryz.prog.info? 70).map (fun i => (i.zero, i.size, i.bytes)) = some (some (.agg #[.int .i64 0, .int .i64 0, .int .i64 0, .int .i64 0, .string ⟨#[]⟩, .bool false, .int .i64 0]), 7, 64) := by kernel_rfl

/-- a state's cells, as the reference has them -/
def potC (s : Al.St) : List Value := [.int .i64 s.i, .int .i64 s.j, .string (bs s.ahead), .bool s.right, .int .i64 0]
def potV (s : Al.St) : Value := .agg (potC s).toArray
/-- a move's cells -/
def mvC (p : Al.R × Al.St) : List Value := [.int .i64 p.1.index, .int .i64 p.1.cost, .int .i64 p.2.i, .int .i64 p.2.j, .string (bs p.2.ahead), .bool p.2.right, .int .i64 0]

/-- what moves ends in -/
def MvP (ms : List (Al.R × Al.St)) (W : World) (e : Ending) (W' : World) : Prop :=
  ∃ v, e = .returned v ∧ W'.ownsRow W.heap.size 70 7 v ms.length (ms.flatMap mvC) ∧ Below W.heap.size W W'

theorem mvsTo_len (w : Al.Ws) (s : Al.St) (K : Int) (l : List Rw.Rule) : (Al.mvsTo w s K l).length ≤ l.length := by
  have : ∀ (l : List Rw.Rule) (i : Nat), (Al.rulesFrom K i l).length ≤ l.length := by
    intro l
    induction l with
    | nil => intro i; exact Nat.le_refl _
    | cons x l ih =>
      intro i
      unfold Al.rulesFrom
      have := ih (i + 1)
      split
      · split
        · simp only [List.length_cons]; omega
        · simp only [List.length_cons]; omega
      · simp only [List.length_cons]; omega
  exact Nat.le_trans (List.length_filterMap_le _ _) (this l 0)

set_option maxRecDepth 100000 in
set_option maxHeartbeats 8000000 in
theorem rmoves_any (t : Rw.Table) (tv : Value) (a b : Int) (L R : List (List UInt8)) (vl vr : Value) (s : Al.St) (W : World) (ht : TableAt W t tv) (hl : SlOf W vl 1 strC L) (hr : SlOf W vr 1 strC R) (hL : L.length ≤ 1000000) (hR : R.length ≤ 1000000) (hsi : s.i ≤ 1000000) (hsj : s.j ≤ 1000000) (hsa : s.ahead.length ≤ 1000000) : Calls Tryz.prog 24 #[tv, .int .i64 a, vl, .int .i64 b, vr, potV s] W (MvP (Al.moves (Al.wsOf t a L b R) s) W) := by
  have HLs := hid hl
  have HRs := hid hr
  obtain ⟨vla, vlc, rfl, -⟩ := hl
  obtain ⟨vra, vrc, rfl, -⟩ := hr
  obtain ⟨⟨vt, vd, ve, rfl, str, ⟨ad, cd, rfl, -⟩, ⟨ae, ce, rfl, -⟩⟩, fr, -, -, hfew, -⟩ := ht
  have HTR := hid str
  obtain ⟨ar, cr, rfl, -⟩ := str
  have HFR := hid fr
  clear fr
  obtain ⟨i0, hi, hz0, hz1, hz2⟩ := info_parts Tryz.infoMove
  obtain ⟨si, sj, sa, sr⟩ := s
  obtain ⟨w, hw⟩ : ∃ w, w = Al.wsOf t a L b R := ⟨_, rfl⟩
  rw [← hw]
  have HW := hid hw
  obtain ⟨lf, hlf⟩ : ∃ lf, lf = Al.byLeft w ⟨si, sj, sa, sr⟩ := ⟨_, rfl⟩
  have HLF := hid (show lf = (sr || (sa.isEmpty && decide (si < L.length))) by rw [hlf, hw]; rfl)
  have HLF' := hid hlf
  have hE := empty_is sa
  obtain ⟨e, he⟩ : ∃ e, e = sa.isEmpty := ⟨_, rfl⟩
  rw [← he] at hE HLF
  have HEE := hid he
  simp only at hsi hsj hsa
  obtain ⟨W2, hW2⟩ : ∃ W2, W2 = (W.alloc (.cells #[.slice ar t.rules.length cr, .slice ad t.drops.length cd, .slice ae t.ends.length ce, .int .i64 t.drop, .int .i64 t.order, .int .i64 t.initial] 25)).alloc (.cells #[.int .i64 si, .int .i64 sj, .string (bs sa), .bool sr, .int .i64 0] 66) := ⟨_, rfl⟩
  have HB2 := hid (show Below W.heap.size W W2 by rw [hW2]; exact ((Below.refl _ W).alloc (Nat.le_refl _) _).alloc (by simp) _)
  have ht2 : W2.heap[W.heap.size]? = some (.cells #[.slice ar t.rules.length cr, .slice ad t.drops.length cd, .slice ae t.ends.length ce, .int .i64 t.drop, .int .i64 t.order, .int .i64 t.initial] 25 (0, 0)) := by
    rw [hW2]; exact (Below.heap_alloc _ _ _ (by simp)).trans (heap_alloc_new W _)
  have hs2 : W2.heap[W.heap.size + 1]? = some (.cells #[.int .i64 si, .int .i64 sj, .string (bs sa), .bool sr, .int .i64 0] 66 (0, 0)) := by
    rw [hW2]
    have := heap_alloc_new (W.alloc (.cells #[.slice ar t.rules.length cr, .slice ad t.drops.length cd, .slice ae t.ends.length ce, .int .i64 t.drop, .int .i64 t.order, .int .i64 t.initial] 25)) (.cells #[.int .i64 si, .int .i64 sj, .string (bs sa), .bool sr, .int .i64 0] 66)
    rwa [World.size_alloc] at this
  have HC : Hid (∀ X, Below W2.heap.size W2 X → X.cell? ⟨W.heap.size, 0, none⟩ = some (.slice ar t.rules.length cr) ∧ X.cell? ⟨W.heap.size + 1, 0, none⟩ = some (.int .i64 si) ∧ X.cell? ⟨W.heap.size + 1, 1, none⟩ = some (.int .i64 sj) ∧ X.cell? ⟨W.heap.size + 1, 2, none⟩ = some (.string (bs sa)) ∧ X.cell? ⟨W.heap.size + 1, 3, none⟩ = some (.bool sr) ∧ W.heap.size + 1 < X.heap.size) := fun X hX => by
    have hd := (hX.block _ (Array.getElem?_eq_some_iff.1 ht2).1).trans ht2
    have hq := (hX.block _ (Array.getElem?_eq_some_iff.1 hs2).1).trans hs2
    exact ⟨by simp [World.cell?, hd], by simp [World.cell?, hq], by simp [World.cell?, hq], by simp [World.cell?, hq], by simp [World.cell?, hq], (Array.getElem?_eq_some_iff.1 hq).1⟩
  obtain ⟨c0, q0, q1, q2, q3, zq⟩ := HC.out W2 (Below.refl _ _)
  clear hw hlf he ht2 hs2
  unfold potV potC
  go_enter Tryz.func24, Tryz.ntmps24
  go_upto_region 2 with (fail)
  rw [← hW2]
  clear hW2
  go_cut [13, 14] from 23 (fun v13 v14 wx => v13 = .slice none 0 0 ∧ v14 = .bool lf ∧ wx = W2)
  case first =>
    cases sr with
    | true =>
      have HE := hid (show lf = true by rw [HLF.out]; rfl)
      clear hE
      go_wp2_with fail
      go_meet
      case rel => exact ⟨rfl, congrArg Value.bool HE.out.symm, rfl⟩
    | false =>
      cases e with
      | false =>
        have HE := hid (show lf = false by rw [HLF.out]; rfl)
        go_wp2_with fail
        go_meet
        case rel => exact ⟨rfl, congrArg Value.bool HE.out.symm, rfl⟩
      | true =>
        have HE := hid (show lf = decide (si < L.length) by rw [HLF.out]; rfl)
        go_wp2_with fail
        go_meet
        case rel => exact ⟨rfl, congrArg Value.bool HE.out.symm, rfl⟩
  case rest =>
    obtain ⟨rfl, rfl, hwc⟩ := hcut
    rw [hwc]
    clear hwc
    go_step
    go_step
    go_quiet (fail)
    go_upto_region 4 with (fail)
    have HBn := hid (Below.drewQ W2 nq)
    obtain ⟨Wq, hWq⟩ : ∃ Wq, Wq = W2.drewN nq := ⟨_, rfl⟩
    rw [← hWq] at HBn
    rw [← hWq]
    clear hWq
    obtain ⟨c0, q0, q1, q2, q3, zq⟩ := HC.out Wq HBn.out
    go_cut [13, 14, 15, 16, 17, 41] from 23 (fun v13 v14 v15 v16 v17 v41 wx => v13 = .slice none 0 0 ∧ v14 = .bool lf ∧ v15 = .int .i64 b ∧ v16 = .slice vra R.length vrc ∧ v17 = .int .i64 sj ∧ v41 = .bool lf ∧ wx = Wq)
    case first =>
      go_wp2_with fail
      go_meet
      case rel => exact ⟨rfl, rfl, rfl, rfl, rfl, rfl, rfl⟩
    case rest =>
    obtain ⟨rfl, rfl, rfl, rfl, rfl, rfl, hwc⟩ := hcut
    rw [hwc]
    clear hwc
    go_step
    go_cut [13, 14, 15, 16, 17] from 23 (fun v13 v14 v15 v16 v17 wx => v13 = .slice none 0 0 ∧ v14 = .bool lf ∧ ∃ (K : Int) (LL : List (List UInt8)) (A : Nat) (oa : Option Addr) (oc : Nat), v15 = .int .i64 K ∧ v16 = .slice oa LL.length oc ∧ v17 = .int .i64 A ∧ Hid (SlOf W (.slice oa LL.length oc) 1 strC LL ∧ LL = (Al.one w ⟨si, sj, sa, sr⟩).letters ∧ A = Al.at_ w ⟨si, sj, sa, sr⟩ ∧ (Al.one w ⟨si, sj, sa, sr⟩).rules = Al.rulesFrom K 0 t.rules ∧ LL.length ≤ 1000000 ∧ A ≤ 1000000) ∧ Hid (Below W2.heap.size W2 wx))
    case first =>
      cases lf with
      | true =>
        go_step
        go_quiet (fail)
        go_wp2_with fail
        go_meet
        case rel =>
          refine ⟨rfl, rfl, a, L, si, vla, vlc, rfl, rfl, rfl, hid ⟨HLs.out, ?_, ?_, ?_, hL, hsi⟩, hid (Below.step HBn.out (Below.drewQ _ _))⟩
          · unfold Al.one; rw [← HLF'.out, if_pos rfl, HW.out]; rfl
          · unfold Al.at_; rw [← HLF'.out, if_pos rfl]
          · unfold Al.one; rw [← HLF'.out, if_pos rfl, HW.out]; rfl
      | false =>
        go_wp2_with fail
        go_meet
        case rel =>
          refine ⟨rfl, rfl, b, R, sj, vra, vrc, rfl, rfl, rfl, hid ⟨HRs.out, ?_, ?_, ?_, hR, hsj⟩, HBn⟩
          · unfold Al.one; rw [← HLF'.out, if_neg (by decide), HW.out]; rfl
          · unfold Al.at_; rw [← HLF'.out, if_neg (by decide)]
          · unfold Al.one; rw [← HLF'.out, if_neg (by decide), HW.out]; rfl
    case rest =>
    obtain ⟨rfl, rfl, K, LL, A, oa, oc, rfl, rfl, rfl, HOO, HBx⟩ := hcut
    rename World => wb
    have HBW := HBx
    have hLL := HOO.out.2.2.2.2.1
    have hA6 := HOO.out.2.2.2.2.2
    clear c0 q0 q1 q2 q3 zq HBx
    go_wp2_with fail
    go_loopw [13, 18] (fun ov iv wr => ∃ (k : Nat) (mv : Value) (ms : List (Al.R × Al.St)), k ≤ t.rules.length ∧ iv = .int .i64 k ∧ mv = ov ∧ Hid (wr.ownsRow W2.heap.size 70 7 mv ms.length (ms.flatMap mvC) ∧ ms = Al.mvsTo w ⟨si, sj, sa, sr⟩ K (t.rules.take k)) ∧ Hid (Below W2.heap.size W2 wr)) (fun _ iv _ => t.rules.length - (RowKit.intOf iv).toNat)
    case atStart => exact ⟨0, _, [], Nat.zero_le _, rfl, rfl, hid ⟨World.ownsRow_nil _ _ _ _, by rw [List.take_zero]; rfl⟩, HBW⟩
    case round =>
      clear HBW
      obtain ⟨k, mv, ms, hk, rfl, rfl, HO, HR⟩ := hrel
      obtain ⟨va, vc, rfl⟩ := ownsRow_slice HO.out.1
      obtain ⟨c0, q0, q1, q2, q3, zq⟩ := HC.out wr HR.out
      by_cases hkt : k < t.rules.length
      · obtain ⟨g, o, rfl, hr⟩ : ∃ g o, ar = some ⟨g, o, none⟩ ∧ RowOf wr g o 4 ruleCells t.rules := by
          obtain ⟨a', c', e, -, -, hr⟩ := HTR.out.below (Below.step HB2.out HR.out)
          cases e
          exact hr (by omega)
        obtain ⟨x, hx⟩ : ∃ x, t.rules[k]? = some x := ⟨_, List.getElem?_eq_getElem hkt⟩
        have hc := hr.2 k x hx
        have e0 := hc 0 _ rfl
        have e1 := hc 1 _ rfl
        have e2 := hc 2 _ rfl
        have e3 := hc 3 _ rfl
        rw [Nat.add_zero] at e0
        have hg := hr.1
        have HFX := hid (HFR.out x (List.mem_of_getElem? hx))
        have HX := hid hx
        have hms : ms.length ≤ t.rules.length := by
          rw [HO.out.2]
          have := mvsTo_len w ⟨si, sj, sa, sr⟩ K (t.rules.take k)
          rw [List.length_take] at this
          omega
        have k0 : (0 : Int) ≤ (k : Int) := by omega
        have k1 : (k : Int) < (t.rules.length : Int) := by omega
        obtain ⟨A1, hA1⟩ : ∃ A1, A1 = wr.alloc (.cells #[.int .i64 x.script, .string (bs x.from_), .string (bs x.to_), .int .i64 x.cost] 72) := ⟨_, rfl⟩
        have HR1 := hid (show Blk A1 wr.heap.size 72 [.int .i64 x.script, .string (bs x.from_), .string (bs x.to_), .int .i64 x.cost] by rw [hA1]; exact Blk.new wr _ _)
        have HB1 := hid (show Below wr.heap.size wr A1 by rw [hA1]; exact (Below.refl _ wr).alloc (Nat.le_refl _) _)
        clear hc hr hx
        go_upto_region 10 with (fail)
        rw [← hA1]
        clear hA1 e0 e1 e2 e3
        have r0 := HR1.out.cell (j := 0) rfl
        have r1 := HR1.out.cell (j := 1) rfl
        have hz1 := HR1.out.lt
        have HO1 := hid (ownsRow_below HO.out.1 HB1.out)
        have HQ1 := hid (Below.step HR.out HB1.out)
        by_cases hsc : x.script = K
        rotate_left
        · have hne : ((x.script : Int) == K) = false := by rw [beq_eq_false_iff_ne]; exact hsc
          have HEE := hid (Al.mvs_other (w := w) (s := ⟨si, sj, sa, sr⟩) HX.out hsc)
          clear hsc
          go_wp2_with fail
          go_roundw
          case rel => exact ⟨k + 1, _, ms, by omega, by go_num, rfl, hid ⟨HO1.out, by rw [HEE.out]; exact HO.out.2⟩, HQ1⟩
          case measure => simp [RowKit.intOf]; omega
        subst hsc
        have hne : ((x.script : Int) == x.script) = true := by simp
        have HFI := hid (rfits_any x.script x.from_ LL (.slice oa LL.length oc) A A1 (HOO.out.1.below (Below.step HB2.out HQ1.out)) (by have := HFX.out.2.1; omega) hLL hA6)
        have HFIT := hid (show fitV (Al.fitN x.script x.from_ LL A) = fitV (Al.fitN x.script x.from_ (Al.one w ⟨si, sj, sa, sr⟩).letters (Al.at_ w ⟨si, sj, sa, sr⟩)) by rw [HOO.out.2.1, HOO.out.2.2.1])
        have HOO1 := hid (And.intro HOO.out.2.1 HOO.out.2.2.1)
        cases hfi : Al.fitN x.script x.from_ LL A with
        | none =>
          have HEE := hid (Al.mvs_unfit (w := w) (s := ⟨si, sj, sa, sr⟩) HX.out rfl (by rw [← HOO1.out.1, ← HOO1.out.2]; exact hfi))
          have HFI2 := hid (show Calls Tryz.prog 42 #[.int .i64 x.script, .string (bs x.from_), .slice oa LL.length oc, .int .i64 A] A1 (Gives (.tuple #[.int .i64 0, .bool false]) A1) by
            have := HFI.out
            rw [hfi] at this
            exact this)
          clear hfi HFIT HFI
          go_wp2_with fail
          refine (HFI2.out).mono ?_
          rintro e A2 ⟨rfl, hb2⟩
          have HO2 := hid (ownsRow_below HO1.out hb2)
          have HQ2 := hid (Below.step HQ1.out hb2)
          clear hb2
          go_wp2_with fail
          go_roundw
          case rel => exact ⟨k + 1, _, ms, by omega, by go_num, rfl, hid ⟨HO2.out, by rw [HEE.out]; exact HO.out.2⟩, HQ2⟩
          case measure => simp [RowKit.intOf]; omega
        | some n =>
          obtain ⟨r, hri, hrc, hrt, hrn, hnl, hstep⟩ := Al.mvs_fit (w := w) (s := ⟨si, sj, sa, sr⟩) HX.out rfl (by rw [← HOO1.out.1, ← HOO1.out.2]; exact hfi)
          rw [← HLF'.out] at hstep
          have HST := hid hstep
          have HRR := hid (And.intro hri (And.intro hrc (And.intro hrt hrn)))
          have hn6 : n ≤ 1000000 := by rw [← HOO1.out.1] at hnl; omega
          have HFI2 := hid (show Calls Tryz.prog 42 #[.int .i64 x.script, .string (bs x.from_), .slice oa LL.length oc, .int .i64 A] A1 (Gives (.tuple #[.int .i64 n, .bool true]) A1) by
            have := HFI.out
            rw [hfi] at this
            exact this)
          clear hfi HFIT HFI hstep hri hrc hrt hrn hnl
          go_wp2_with fail
          refine (HFI2.out).mono ?_
          rintro e A2 ⟨rfl, hb2⟩
          have HO2 := hid (ownsRow_below HO1.out hb2)
          have HQ2 := hid (Below.step HQ1.out hb2)
          have HR2 := hid (HR1.out.below hb2)
          obtain ⟨c0, q0, q1, q2, q3, zq⟩ := HC.out A2 HQ2.out
          obtain ⟨A3, hA3⟩ : ∃ A3, A3 = A2.alloc (.cells #[.int .i64 si, .int .i64 sj, .string ⟨#[]⟩, .bool false, .int .i64 0] 66) := ⟨_, rfl⟩
          have HP3 := hid (show Blk A3 A2.heap.size 66 [.int .i64 si, .int .i64 sj, .string ⟨#[]⟩, .bool false, .int .i64 0] by rw [hA3]; exact Blk.new A2 _ _)
          have HB3 := hid (show Below A2.heap.size A2 A3 by rw [hA3]; exact (Below.refl _ A2).alloc (Nat.le_refl _) _)
          clear hb2 r0 r1 hz1
          go_upto_region 14 with (fail)
          rw [← hA3]
          clear hA3 c0 q0 q1 q2 q3 zq
          go_upto_if 78 with (fail)
          obtain ⟨ii, hii⟩ : ∃ ii, ii = if lf then si + n else si := ⟨_, rfl⟩
          obtain ⟨jj, hjj⟩ : ∃ jj, jj = if lf then sj else sj + n := ⟨_, rfl⟩
          have HIJ := hid (And.intro hii hjj)
          clear hii hjj
          go_cut [14, 18] from 78 to 131 (fun v14 v18 wx => v14 = .bool lf ∧ v18 = .int .i64 k ∧ Hid (Blk wx A2.heap.size 66 [.int .i64 ii, .int .i64 jj, .string ⟨#[]⟩, .bool false, .int .i64 0]) ∧ Hid (Below A2.heap.size A2 wx))
          case first =>
            have p0 := HP3.out.cell (j := 0) rfl
            have p1 := HP3.out.cell (j := 1) rfl
            have f0 := HP3.out.frozen 0
            have f1 := HP3.out.frozen 1
            have hpz := HP3.out.lt
            cases lf with
            | true =>
              have hwr : IntKind.i64.wrap ((si : Int) + (n : Int)) = (si : Int) + (n : Int) := IntWalk.i64_in _ (by omega)
              have HIJ2 := hid (show ((ii : Nat) : Int) = (si : Int) + (n : Int) ∧ jj = sj by have := HIJ.out; simp only [if_true] at this; omega)
              go_wp2_with fail
              go_meet
              case rel =>
                refine ⟨rfl, rfl, hid ?_, hid (HB3.out.setCell (p := ⟨A2.heap.size, 0, none⟩) (by simp) _)⟩
                have := HP3.out.set 0 (.int .i64 ((si : Int) + (n : Int)))
                rw [HIJ2.out.1, HIJ2.out.2]
                exact this
            | false =>
              have hwr : IntKind.i64.wrap ((sj : Int) + (n : Int)) = (sj : Int) + (n : Int) := IntWalk.i64_in _ (by omega)
              have HIJ2 := hid (show ((jj : Nat) : Int) = (sj : Int) + (n : Int) ∧ ii = si by have := HIJ.out; simp only [Bool.false_eq_true, if_false] at this; omega)
              go_wp2_with fail
              go_meet
              case rel =>
                refine ⟨rfl, rfl, hid ?_, hid (HB3.out.setCell (p := ⟨A2.heap.size, 1, none⟩) (by simp) _)⟩
                have := HP3.out.set 1 (.int .i64 ((sj : Int) + (n : Int)))
                rw [HIJ2.out.1, HIJ2.out.2]
                exact this
          case rest =>
          obtain ⟨rfl, rfl, HP4, HB4⟩ := hcut
          rename World => A4
          have HQ4 := hid (Below.step HQ2.out HB4.out)
          obtain ⟨c0, q0, q1, q2, q3, zq⟩ := HC.out A4 HQ4.out
          have r2 := (HR2.out.below HB4.out).cell (j := 2) rfl
          have hrz := (HR2.out.below HB4.out).lt
          have HBG := hid (rbegins_any sa x.to_ A4 hsa (by have := HFX.out.2.2; omega))
          clear c0 q0 q1 q3
          cases hb1 : x.to_.isPrefixOf sa with
          | true =>
            rw [hb1] at HBG
            have hle : x.to_.length ≤ sa.length := (List.isPrefixOf_iff_prefix.1 hb1).length_le
            obtain ⟨ah, hah⟩ : ∃ ah, ah = sa.drop x.to_.length := ⟨_, rfl⟩
            have HAH := hid hah
            have HNX := hid (show Al.nextOf lf ⟨si, sj, sa, sr⟩ r = some ⟨ii, jj, ah, sr && !ah.isEmpty⟩ by
              unfold Al.nextOf
              simp only [HRR.out.2.2.1, HRR.out.2.2.2]
              rw [if_pos hb1, ← hah, ← HIJ.out.1, ← HIJ.out.2])
            have hx1 : (bs sa).extract x.to_.length sa.length = bs ah := by
              rw [extract_bs, hah, List.take_of_length_le (by rw [List.length_drop, bs_list]; exact Nat.le_refl _), bs_list]
            have hle' : (x.to_.length : Int) ≤ (sa.length : Int) := by omega
            have hbl := bs_len sa
            have hbt := bs_len x.to_
            clear hb1 hah
            go_wp2_with fail
            refine (HBG.out).mono ?_
            rintro e A5 ⟨rfl, hb5⟩
            have HB5 := hid (Below.step HB4.out hb5)
            have HP5 := hid (HP4.out.below hb5)
            have HQ5 := hid (Below.step HQ2.out HB5.out)
            clear hb5 q2 zq r2 hrz
            obtain ⟨c0, q0, q1, q2, q3, zq⟩ := HC.out A5 HQ5.out
            have r2 := (HR2.out.below HB5.out).cell (j := 2) rfl
            have hrz := (HR2.out.below HB5.out).lt
            have f2 := HP5.out.frozen 2
            have p2 := HP5.out.cell (j := 2) rfl
            have hpz := HP5.out.lt
            clear c0 q0 q1 q3
            obtain ⟨A6, hA6⟩ : ∃ A6, A6 = A5.setCell ⟨A2.heap.size, 2, none⟩ (.string (bs ah)) := ⟨_, rfl⟩
            have HP6 := hid (show Blk A6 A2.heap.size 66 [.int .i64 ii, .int .i64 jj, .string (bs ah), .bool false, .int .i64 0] by rw [hA6]; exact HP5.out.set 2 _)
            have HB6 := hid (show Below A2.heap.size A2 A6 by rw [hA6]; exact HB5.out.setCell (p := ⟨A2.heap.size, 2, none⟩) (by simp) _)
            go_upto_region 19 with (fail)
            rw [← hA6]
            clear hA6 q2 zq r2 hrz f2 p2 hpz hx1 hle hle' hbl hbt
            obtain ⟨c0, q0, q1, q2, q3, zq⟩ := HC.out A6 (Below.step HQ2.out HB6.out)
            have p2 := HP6.out.cell (j := 2) rfl
            have p3 := HP6.out.cell (j := 3) rfl
            have f3 := HP6.out.frozen 3
            have hpz := HP6.out.lt
            obtain ⟨srr, hsr⟩ : ∃ srr, srr = sr := ⟨_, rfl⟩
            rw [← hsr] at q3
            have HSR := hid hsr
            clear c0 q0 q1 q2 hsr
            go_cut [14, 18] from 101 to 131 (fun v14 v18 wx => v14 = .bool lf ∧ v18 = .int .i64 k ∧ Hid (Blk wx A2.heap.size 66 [.int .i64 ii, .int .i64 jj, .string (bs ah), .bool (sr && !ah.isEmpty), .int .i64 0]) ∧ Hid (Below A2.heap.size A2 wx))
            case first =>
              cases srr with
              | false =>
                go_wp2_with fail
                go_meet
                case rel =>
                  refine ⟨rfl, rfl, hid ?_, hid (HB6.out.setCell (p := ⟨A2.heap.size, 3, none⟩) (by simp) _)⟩
                  rw [← HSR.out, Bool.false_and]
                  exact HP6.out.set 3 (.bool false)
              | true =>
                have hE := empty_is ah
                obtain ⟨e, he⟩ : ∃ e, e = ah.isEmpty := ⟨_, rfl⟩
                rw [← he] at hE
                have HEE := hid he
                clear he
                cases e with
                | false =>
                  go_wp2_with fail
                  go_meet
                  case rel =>
                    refine ⟨rfl, rfl, hid ?_, hid (HB6.out.setCell (p := ⟨A2.heap.size, 3, none⟩) (by simp) _)⟩
                    rw [← HSR.out, ← HEE.out]
                    exact HP6.out.set 3 (.bool true)
                | true =>
                  go_wp2_with fail
                  go_meet
                  case rel =>
                    refine ⟨rfl, rfl, hid ?_, hid (HB6.out.setCell (p := ⟨A2.heap.size, 3, none⟩) (by simp) _)⟩
                    rw [← HSR.out, ← HEE.out]
                    exact HP6.out.set 3 (.bool false)
            case rest =>
            obtain ⟨rfl, rfl, HPQ, HBQ⟩ := hcut
            rename World => wq
            clear q3 zq p2 p3 f3 hpz
            obtain ⟨nr, hnr⟩ : ∃ nr, nr = (sr && !ah.isEmpty) := ⟨_, rfl⟩
            rw [← hnr] at HPQ HNX
            clear hnr
            have hmv : mvC (r, (⟨ii, jj, ah, nr⟩ : Al.St)) = [.int .i64 k, .int .i64 x.cost, .int .i64 ((ii : Nat) : Int), .int .i64 ((jj : Nat) : Int), .string (bs (ah)), .bool (nr), .int .i64 0] := by unfold mvC; rw [HRR.out.1, HRR.out.2.1]
            have HMV := hid hmv
            have HMS := hid (show ms ++ [(r, (⟨ii, jj, ah, nr⟩ : Al.St))] = Al.mvsTo w ⟨si, sj, sa, sr⟩ x.script (t.rules.take (k + 1)) by rw [HST.out, ← HO.out.2, HNX.out])
            have hown7 := (ownsRow_below HO2.out HBQ.out).alloc (.cells #[.int .i64 k, .int .i64 x.cost, .int .i64 ((ii : Nat) : Int), .int .i64 ((jj : Nat) : Int), .string (bs (ah)), .bool (nr), .int .i64 0] 70)
            have hb7 := HBQ.out.alloc (Nat.le_trans (Nat.le_refl _) HBQ.out.size) (.cells #[.int .i64 k, .int .i64 x.cost, .int .i64 ((ii : Nat) : Int), .int .i64 ((jj : Nat) : Int), .string (bs (ah)), .bool (nr), .int .i64 0] 70)
            have H7 := hid (And.intro hown7 hb7)
            have p0 := HPQ.out.cell (j := 0) rfl
            have p1 := HPQ.out.cell (j := 1) rfl
            have p2 := HPQ.out.cell (j := 2) rfl
            have p3 := HPQ.out.cell (j := 3) rfl
            have p4 := HPQ.out.cell (j := 4) rfl
            have hpz := HPQ.out.lt
            have r3 := (HR2.out.below HBQ.out).cell (j := 3) rfl
            have hrz := (HR2.out.below HBQ.out).lt
            have hq2 := HQ2.out.size
            have hqz := HBQ.out.size
            clear hmv hb7 hown7
            go_wp2_with (at_builtin; refine wpList_append_own _ rfl _ _ 67 rfl W2.heap.size 70 i0 (.agg #[.int .i64 0, .int .i64 0, .int .i64 0, .int .i64 0, .string ⟨#[]⟩, .bool false, .int .i64 0]) 7 64 Tryz.underlying67 hi hz0 hz1 hz2 rfl (by decide) _ _ _ rfl H7.out.1 ⟨wq.heap.size, 0, none⟩ 1 1 [.int .i64 k, .int .i64 x.cost, .int .i64 ((ii : Nat) : Int), .int .i64 ((jj : Nat) : Int), .string (bs (ah)), .bool (nr), .int .i64 0] rfl rfl (cells_new rfl) (by simp [Value.oneCell']) (by unfold maxLen; omega) (by omega) (by simp; omega) ?_; intro v' w8 ho8 hg8 _)
            have HO8 := hid (show w8.ownsRow W2.heap.size 70 7 v' (ms ++ [(r, (⟨ii, jj, ah, nr⟩ : Al.St))]).length ((ms ++ [(r, (⟨ii, jj, ah, nr⟩ : Al.St))]).flatMap mvC) by
              rw [List.flatMap_append, List.length_append, List.flatMap_singleton, HMV.out]
              exact ho8)
            have HR8 := hid (Below.appended (HQ2.out.trans (H7.out.2.mono HQ2.out.size)) hg8 (by simp; omega) H7.out.1)
            clear ho8 hg8
            go_roundw
            case rel => exact ⟨k + 1, _, _, by omega, by go_num, rfl, hid ⟨HO8.out, HMS.out⟩, HR8⟩
            case measure => simp [RowKit.intOf]; omega
          | false =>
            rw [hb1] at HBG
            go_wp2_with fail
            refine (HBG.out).mono ?_
            rintro e A5 ⟨rfl, hb5⟩
            have HB5 := hid (Below.step HB4.out hb5)
            have HP5 := hid (HP4.out.below hb5)
            have HQ5 := hid (Below.step HQ2.out HB5.out)
            clear hb5 q2 zq r2 hrz
            obtain ⟨c0, q0, q1, q2, q3, zq⟩ := HC.out A5 HQ5.out
            have r2 := (HR2.out.below HB5.out).cell (j := 2) rfl
            have hrz := (HR2.out.below HB5.out).lt
            have HBH := hid (rbegins_any x.to_ sa A5 (by have := HFX.out.2.2; omega) hsa)
            clear c0 q0 q1 q3
            cases hb2 : sa.isPrefixOf x.to_ with
            | false =>
              rw [hb2] at HBH
              have HNX := hid (show Al.nextOf lf ⟨si, sj, sa, sr⟩ r = none by
                unfold Al.nextOf
                simp only [HRR.out.2.2.1]
                rw [if_neg (by rw [hb1]; exact Bool.false_ne_true), if_neg (by rw [hb2]; exact Bool.false_ne_true)])
              clear hb1 hb2
              go_wp2_with fail
              refine (HBH.out).mono ?_
              rintro e A6 ⟨rfl, hb6⟩
              have HO6 := hid (ownsRow_below (ownsRow_below HO2.out HB5.out) hb6)
              have HQ6 := hid (Below.step HQ5.out hb6)
              clear hb6
              go_wp2_with fail
              go_roundw
              case rel => exact ⟨k + 1, _, ms, by omega, by go_num, rfl, hid ⟨HO6.out, by rw [HST.out, HNX.out, List.append_nil]; exact HO.out.2⟩, HQ6⟩
              case measure => simp [RowKit.intOf]; omega
            | true =>
              rw [hb2] at HBH
              have hle : sa.length ≤ x.to_.length := (List.isPrefixOf_iff_prefix.1 hb2).length_le
              obtain ⟨ah, hah⟩ : ∃ ah, ah = x.to_.drop sa.length := ⟨_, rfl⟩
              have HNX := hid (show Al.nextOf lf ⟨si, sj, sa, sr⟩ r = some ⟨ii, jj, ah, !lf⟩ by
                unfold Al.nextOf
                simp only [HRR.out.2.2.1, HRR.out.2.2.2]
                rw [if_neg (by rw [hb1]; exact Bool.false_ne_true), if_pos hb2, ← hah, ← HIJ.out.1, ← HIJ.out.2])
              have hx1 : (bs x.to_).extract sa.length x.to_.length = bs ah := by
                rw [extract_bs, hah, List.take_of_length_le (by rw [List.length_drop, bs_list]; exact Nat.le_refl _), bs_list]
              have hle' : (sa.length : Int) ≤ (x.to_.length : Int) := by omega
              have hbl := bs_len sa
              have hbt := bs_len x.to_
              have hft := HFX.out.2.2
              clear hb1 hb2 hah
              go_wp2_with fail
              refine (HBH.out).mono ?_
              rintro e A6 ⟨rfl, hb6⟩
              have HB6 := hid (Below.step HB5.out hb6)
              have HP6 := hid (HP5.out.below hb6)
              have HQ6 := hid (Below.step HQ2.out HB6.out)
              clear hb6 q2 zq r2 hrz
              obtain ⟨c0, q0, q1, q2, q3, zq⟩ := HC.out A6 HQ6.out
              have r2 := (HR2.out.below HB6.out).cell (j := 2) rfl
              have hrz := (HR2.out.below HB6.out).lt
              have f2 := HP6.out.frozen 2
              have p2 := HP6.out.cell (j := 2) rfl
              have f3 := HP6.out.frozen 3
              have p3 := HP6.out.cell (j := 3) rfl
              have hpz := HP6.out.lt
              clear c0 q0 q1 q3
              obtain ⟨wq, hwq⟩ : ∃ wq, wq = (A6.setCell ⟨A2.heap.size, 2, none⟩ (.string (bs ah))).setCell ⟨A2.heap.size, 3, none⟩ (.bool (!lf)) := ⟨_, rfl⟩
              have HPQ := hid (show Blk wq A2.heap.size 66 [.int .i64 ii, .int .i64 jj, .string (bs ah), .bool (!lf), .int .i64 0] by rw [hwq]; exact (HP6.out.set 2 _).set 3 _)
              have HBQ := hid (show Below A2.heap.size A2 wq by rw [hwq]; exact (HB6.out.setCell (p := ⟨A2.heap.size, 2, none⟩) (by simp) _).setCell (p := ⟨A2.heap.size, 3, none⟩) (by simp) _)
              go_upto_region 23 with (fail)
              rw [← hwq]
              clear hwq q2 zq r2 hrz f2 p2 f3 p3 hpz hx1 hle hle' hbl hbt
              obtain ⟨nr, hnr⟩ : ∃ nr, nr = !lf := ⟨_, rfl⟩
              rw [← hnr] at HPQ HNX
              clear hnr
              have hmv : mvC (r, (⟨ii, jj, ah, nr⟩ : Al.St)) = [.int .i64 k, .int .i64 x.cost, .int .i64 ((ii : Nat) : Int), .int .i64 ((jj : Nat) : Int), .string (bs (ah)), .bool (nr), .int .i64 0] := by unfold mvC; rw [HRR.out.1, HRR.out.2.1]
              have HMV := hid hmv
              have HMS := hid (show ms ++ [(r, (⟨ii, jj, ah, nr⟩ : Al.St))] = Al.mvsTo w ⟨si, sj, sa, sr⟩ x.script (t.rules.take (k + 1)) by rw [HST.out, ← HO.out.2, HNX.out])
              have hown7 := (ownsRow_below HO2.out HBQ.out).alloc (.cells #[.int .i64 k, .int .i64 x.cost, .int .i64 ((ii : Nat) : Int), .int .i64 ((jj : Nat) : Int), .string (bs (ah)), .bool (nr), .int .i64 0] 70)
              have hb7 := HBQ.out.alloc (Nat.le_trans (Nat.le_refl _) HBQ.out.size) (.cells #[.int .i64 k, .int .i64 x.cost, .int .i64 ((ii : Nat) : Int), .int .i64 ((jj : Nat) : Int), .string (bs (ah)), .bool (nr), .int .i64 0] 70)
              have H7 := hid (And.intro hown7 hb7)
              have p0 := HPQ.out.cell (j := 0) rfl
              have p1 := HPQ.out.cell (j := 1) rfl
              have p2 := HPQ.out.cell (j := 2) rfl
              have p3 := HPQ.out.cell (j := 3) rfl
              have p4 := HPQ.out.cell (j := 4) rfl
              have hpz := HPQ.out.lt
              have r3 := (HR2.out.below HBQ.out).cell (j := 3) rfl
              have hrz := (HR2.out.below HBQ.out).lt
              have hq2 := HQ2.out.size
              have hqz := HBQ.out.size
              clear hmv hb7 hown7
              go_wp2_with (at_builtin; refine wpList_append_own _ rfl _ _ 67 rfl W2.heap.size 70 i0 (.agg #[.int .i64 0, .int .i64 0, .int .i64 0, .int .i64 0, .string ⟨#[]⟩, .bool false, .int .i64 0]) 7 64 Tryz.underlying67 hi hz0 hz1 hz2 rfl (by decide) _ _ _ rfl H7.out.1 ⟨wq.heap.size, 0, none⟩ 1 1 [.int .i64 k, .int .i64 x.cost, .int .i64 ((ii : Nat) : Int), .int .i64 ((jj : Nat) : Int), .string (bs (ah)), .bool (nr), .int .i64 0] rfl rfl (cells_new rfl) (by simp [Value.oneCell']) (by unfold maxLen; omega) (by omega) (by simp; omega) ?_; intro v' w8 ho8 hg8 _)
              have HO8 := hid (show w8.ownsRow W2.heap.size 70 7 v' (ms ++ [(r, (⟨ii, jj, ah, nr⟩ : Al.St))]).length ((ms ++ [(r, (⟨ii, jj, ah, nr⟩ : Al.St))]).flatMap mvC) by
                rw [List.flatMap_append, List.length_append, List.flatMap_singleton, HMV.out]
                exact ho8)
              have HR8 := hid (Below.appended (HQ2.out.trans (H7.out.2.mono HQ2.out.size)) hg8 (by simp; omega) H7.out.1)
              clear ho8 hg8
              go_roundw
              case rel => exact ⟨k + 1, _, _, by omega, by go_num, rfl, hid ⟨HO8.out, HMS.out⟩, HR8⟩
              case measure => simp [RowKit.intOf]; omega
      · have hke : k = t.rules.length := by omega
        have HFIN := hid (show ms = Al.moves w ⟨si, sj, sa, sr⟩ by
          rw [HO.out.2, hke, List.take_length]
          unfold Al.mvsTo Al.moves
          rw [HOO.out.2.2.2.1])
        have HWW := hid (Below.step HB2.out HR.out)
        have HOW := hid (ownsRow_base HO.out.1 HB2.out.size)
        clear hke
        go_wp2_with fail
        go_ret
        unfold MvP
        refine ⟨_, rfl, ?_, HWW.out⟩
        rw [← HFIN.out]
        exact HOW.out

end Go.Proofs.YthibphklchalkaaGreatDoor
