/-
  The reference's Costs, and whether the arguments are valid. Conditions: lengths.
-/
import Derived.Test.YthibphklchalkaaGreatDoorZRr9
import Derived.Test.YthibphklchalkaaGreatDoorZMRr
import Derived.Test.YthibphklchalkaaGreatDoorZAl8
namespace Al
theorem side_of {t : List Rw.Rule} {k : Int} {x : List UInt8} {ls : List (List UInt8)} (h : Sc.lets k x = some ls) : side t k x = some ⟨ls.map Sc.fold, rulesFrom k 0 t⟩ := by
  unfold side
  rw [h]
  simp only
  rw [Sc.lets_fold h]
theorem side_no {t : List Rw.Rule} {k : Int} {x : List UInt8} (h : Sc.lets k x = none) : side t k x = none := by
  unfold side
  rw [h]
end Al
namespace Go.Proofs.YthibphklchalkaaGreatDoor
open Go.RowKit Go.Lib Go.Maps

theorem RL11P.some_ {k : Int} {l : List UInt8} {w : World} {e : Ending} {w' : World} {ls : List (List UInt8)} (h : RL11P k l w e w') (hl : Sc.lets k l = some ls) :
    ∃ va vc, e = .returned (.tuple #[.slice va (ls.map Sc.fold).length vc, .bool true]) ∧ SlOf w' (.slice va (ls.map Sc.fold).length vc) 1 strC (ls.map Sc.fold) ∧ Below w.heap.size w w' := by
  unfold RL11P at h
  rw [hl] at h
  obtain ⟨v, rfl, ho, hb⟩ := h
  have hlen : ls.length = (ls.map Sc.fold).length := by rw [List.length_map]
  rw [hlen] at ho
  obtain ⟨va, vc, rfl⟩ := ownsRow_slice ho
  exact ⟨va, vc, rfl, SlOf.own ho (fun x _ => rfl), hb⟩

theorem RL11P.any {k : Int} {l : List UInt8} {w : World} {e : Ending} {w' : World} (h : RL11P k l w e w') :
    ∃ v, e = .returned (.tuple #[v, .bool (Sc.lets k l).isSome]) ∧ Below w.heap.size w w' := by
  unfold RL11P at h
  cases hl : Sc.lets k l with
  | none => rw [hl] at h; obtain ⟨rfl, hb⟩ := h; exact ⟨_, rfl, hb⟩
  | some ls => rw [hl] at h; obtain ⟨v, rfl, -, hb⟩ := h; exact ⟨v, rfl, hb⟩

theorem side_isSome (t : List Rw.Rule) (k : Int) (x : List UInt8) : (Al.side t k x).isSome = (Sc.lets k x).isSome := by
  cases h : Sc.lets k x with
  | none => rw [Al.side_no h]; rfl
  | some ls => rw [Al.side_of h]; rfl

set_option maxRecDepth 100000 in
set_option maxHeartbeats 4000000 in
theorem proper_any (t : Rw.Table) (tv : Value) (a b : Int) (x y : List UInt8) (W : World) (ht : TableAt W t tv) (hx : x.length ≤ 1000000) (hy : y.length ≤ 1000000) :
    Calls Tryz.prog 21 #[tv, .int .i64 a, .string (bs x), .int .i64 b, .string (bs y)] W (Gives (.bool (Al.openB t a x b y)) W) := by
  have HT := hid ht
  obtain ⟨⟨vr, vd, ve, rfl, ⟨ar, cr, rfl, -⟩, ⟨ad, cd, rfl, -⟩, ⟨ae, ce, rfl, -⟩⟩, -, -, -, -, -, -⟩ := ht
  obtain ⟨W1, hW1⟩ : ∃ W1, W1 = W.alloc (.cells #[.slice ar t.rules.length cr, .slice ad t.drops.length cd, .slice ae t.ends.length ce, .int .i64 t.drop, .int .i64 t.order, .int .i64 t.initial] 25) := ⟨_, rfl⟩
  have HB1 := hid (show Below W.heap.size W W1 by rw [hW1]; exact (Below.refl _ W).alloc (Nat.le_refl _) _)
  have HT1 := hid (show Blk W1 W.heap.size 25 [.slice ar t.rules.length cr, .slice ad t.drops.length cd, .slice ae t.ends.length ce, .int .i64 t.drop, .int .i64 t.order, .int .i64 t.initial] by rw [hW1]; exact Blk.new W _ _)
  have HO := hid (show Al.openB t a x b y = ((Sc.lets a x).isSome && (Sc.lets b y).isSome && Rw.valid t) by unfold Al.openB; rw [side_isSome, side_isSome])
  have HL1 := hid (rletters11_any a x W1 hx)
  go_enter Tryz.func21, Tryz.ntmps21
  go_upto_region 1 with (fail)
  rw [← hW1]
  clear hW1
  go_wp2_with fail
  refine (HL1.out).mono ?_
  intro e W2 h2
  obtain ⟨v, rfl, hb2⟩ := h2.any
  have HB2 := hid (Below.step HB1.out hb2)
  have HT2 := hid (HT1.out.below hb2)
  have HL2 := hid (rletters11_any b y W2 hy)
  clear hb2 h2
  go_wp2_with fail
  refine (HL2.out).mono ?_
  intro e W3 h3
  obtain ⟨v2, rfl, hb3⟩ := h3.any
  have HB3 := hid (Below.step HB2.out hb3)
  have HT3 := hid (HT2.out.below hb3)
  have HV := hid (rvalid10_any t _ W3 (HT.out.below HB3.out))
  have c0 := HT3.out.cell (j := 0) rfl
  have c1 := HT3.out.cell (j := 1) rfl
  have c2 := HT3.out.cell (j := 2) rfl
  have c3 := HT3.out.cell (j := 3) rfl
  have c4 := HT3.out.cell (j := 4) rfl
  have c5 := HT3.out.cell (j := 5) rfl
  have zc := HT3.out.lt
  obtain ⟨o1, h1⟩ : ∃ o, o = (Sc.lets a x).isSome := ⟨_, rfl⟩
  obtain ⟨o2, h2⟩ : ∃ o, o = (Sc.lets b y).isSome := ⟨_, rfl⟩
  rw [← h1, ← h2] at HO
  rw [← h1, ← h2]
  clear hb3 h3 h1 h2
  cases o1 with
  | false =>
    go_wp2_with fail
    go_ret
    exact ⟨by rw [HO.out]; rfl, HB3.out⟩
  | true =>
    cases o2 with
    | false =>
      go_wp2_with fail
      go_ret
      exact ⟨by rw [HO.out]; rfl, HB3.out⟩
    | true =>
      go_wp2_with fail
      refine (HV.out).mono ?_
      rintro e W4 ⟨rfl, hb4⟩
      have HB4 := hid (Below.step HB3.out hb4)
      clear hb4 c0 c1 c2 c3 c4 c5 zc
      go_wp2_with fail
      go_ret
      exact ⟨by rw [HO.out]; rfl, HB4.out⟩

/-- what Costs ends in -/
def RCostsP (w : Al.Ws) (W : World) (e : Ending) (W' : World) : Prop :=
  ∃ m K', e = .returned (.map (some m)) ∧ Below W.heap.size W W' ∧ MapF W' Tryz.prog 66 m K'.length (costsP w K') ∧ Al.Closed w K' ∧ Al.zero ∈ K'

set_option maxRecDepth 100000 in
set_option maxHeartbeats 4000000 in
theorem rcosts_any (t : Rw.Table) (tv : Value) (a b : Int) (x y : List UInt8) (lx ly : List (List UInt8)) (w : Al.Ws) (W : World) (ht : TableAt W t tv) (hx : x.length ≤ 1000000) (hy : y.length ≤ 1000000) (h1 : Sc.lets a x = some lx) (h2 : Sc.lets b y = some ly)
    (hw : w = Al.wsOf t a (lx.map Sc.fold) b (ly.map Sc.fold)) (hf : Few w) :
    Calls Tryz.prog 23 #[tv, .int .i64 a, .string (bs x), .int .i64 b, .string (bs y)] W (RCostsP w W) := by
  have HT := hid ht
  have HH1 := hid h1
  have HH2 := hid h2
  have hl1 : lx.map Sc.fold = w.left.letters := by rw [hw]; rfl
  have hl2 : ly.map Sc.fold = w.right.letters := by rw [hw]; rfl
  have HW := hid (show w = Al.wsOf t a w.left.letters b w.right.letters by rw [← hl1, ← hl2]; exact hw)
  have HLL := hid (And.intro hl1 hl2)
  have hmm := @run_makeMap Tryz.prog
  clear hw h1 h2 hl1 hl2
  obtain ⟨⟨vr, vd, ve, rfl, ⟨ar, cr, rfl, -⟩, ⟨ad, cd, rfl, -⟩, ⟨ae, ce, rfl, -⟩⟩, -, -, -, -, -, -⟩ := ht
  obtain ⟨W1, hW1⟩ : ∃ W1, W1 = W.alloc (.cells #[.slice ar t.rules.length cr, .slice ad t.drops.length cd, .slice ae t.ends.length ce, .int .i64 t.drop, .int .i64 t.order, .int .i64 t.initial] 25) := ⟨_, rfl⟩
  have HB1 := hid (show Below W.heap.size W W1 by rw [hW1]; exact (Below.refl _ W).alloc (Nat.le_refl _) _)
  have HT1 := hid (show Blk W1 W.heap.size 25 [.slice ar t.rules.length cr, .slice ad t.drops.length cd, .slice ae t.ends.length ce, .int .i64 t.drop, .int .i64 t.order, .int .i64 t.initial] by rw [hW1]; exact Blk.new W _ _)
  have HL1 := hid (rletters11_any a x W1 hx)
  go_enter Tryz.func23, Tryz.ntmps23
  go_upto_region 1 with (fail)
  rw [← hW1]
  clear hW1
  go_wp2_with fail
  refine (HL1.out).mono ?_
  intro e W2 h2
  obtain ⟨va, vc, rfl, hs2, hb2⟩ := h2.some_ HH1.out
  rw [HLL.out.1] at hs2 ⊢
  have HS2 := hid hs2
  have HB2 := hid (Below.step HB1.out hb2)
  have HT2 := hid (HT1.out.below hb2)
  have HL2 := hid (rletters11_any b y W2 hy)
  clear hb2 h2 hs2
  go_wp2_with fail
  refine (HL2.out).mono ?_
  intro e W3 h3
  obtain ⟨ua, uc, rfl, hs3, hb3⟩ := h3.some_ HH2.out
  rw [HLL.out.2] at hs3 ⊢
  have HS3 := hid hs3
  have HS23 := hid (HS2.out.below hb3)
  have HB3 := hid (Below.step HB2.out hb3)
  have HT3 := hid (HT2.out.below hb3)
  clear hb3 h3 hs3
  obtain ⟨W4, hW4⟩ : ∃ W4, W4 = W3.alloc (.map #[] 0) := ⟨_, rfl⟩
  have hb4 : Below W3.heap.size W3 W4 := by rw [hW4]; exact (Below.refl _ W3).alloc (Nat.le_refl _) _
  have hm4 : MapF W4 Tryz.prog 66 W3.heap.size ([] : List Al.St).length (costsP w []) := by
    have := MapF.made W3 Tryz.prog 66
    rw [← hW4] at this
    exact this.congr (fun x kl _ => by unfold costsP; rw [dif_neg]; rintro ⟨s, hs, _⟩; cases hs)
  have HT4 := hid (HT3.out.below hb4)
  have HB4 := hid (Below.step HB3.out hb4)
  have HR := hid (rest_any t _ a b (.slice va w.left.letters.length vc) (.slice ua w.right.letters.length uc) w HW.out hf W3.heap.size (Al.meas w Al.zero + 1) Al.zero [] W4 (Nat.lt_succ_self _) Al.ok_zero
    ⟨HT.out.below HB4.out, HS23.out.below hb4, HS3.out.below hb4, hm4, ⟨(fun x hx => absurd hx List.not_mem_nil), (fun x hx => absurd hx List.not_mem_nil), List.nodup_nil⟩⟩)
  have c0 := HT4.out.cell (j := 0) rfl
  have c1 := HT4.out.cell (j := 1) rfl
  have c2 := HT4.out.cell (j := 2) rfl
  have c3 := HT4.out.cell (j := 3) rfl
  have c4 := HT4.out.cell (j := 4) rfl
  have c5 := HT4.out.cell (j := 5) rfl
  have zc := HT4.out.lt
  have HZ := hid (show W.heap.size ≤ W3.heap.size ∧ W3.heap.size ≤ W4.heap.size from ⟨HB3.out.size, hb4.size⟩)
  clear hb4 hm4
  go_upto_region 4 with (fail)
  rw [← hW4]
  clear hW4 hmm
  unfold potV potC at HR
  go_wp2_with fail
  refine (HR.out).mono ?_
  rintro e W5 ⟨rfl, hbut, K', C', hin, -, -⟩
  have HE := hid (And.intro (HB4.out.trans (hbut.below (n' := W.heap.size) (by have := HZ.out; omega) HZ.out.1)) (And.intro C' hin))
  clear hbut C' hin c0 c1 c2 c3 c4 c5 zc
  go_wp2_with fail
  go_ret
  exact ⟨_, K', rfl, HE.out.1, HE.out.2.1.map, HE.out.2.1.closed, HE.out.2.2⟩

end Go.Proofs.YthibphklchalkaaGreatDoor
