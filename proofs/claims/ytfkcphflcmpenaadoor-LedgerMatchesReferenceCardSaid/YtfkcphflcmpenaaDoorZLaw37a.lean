/-
  The statement LedgerZero as the program computes it. Conditions: sizes that arguments can have.
-/
import Derived.Test.YtfkcphflcmpenaaDoorZLed10
namespace Lg

theorem balAt_bound {s : S} (h : Inv s) (a : ByteArray) (t : Int) : -24000000000000000 ≤ balAt s a t ∧ balAt s a t ≤ 24000000000000000 := by
  unfold balAt sumAt
  split
  · have h1 := sumB_bound (l := s.books.filter fun b => decide (b.at_ ≤ t)) (fun b hb => formed_units (h.formed b (List.mem_filter.1 hb).1)) a
    have h2 := List.length_filter_le (fun b => decide (b.at_ ≤ t)) s.books
    have h3 := h.fewB
    omega
  · omega
theorem sumF_bound {g : ByteArray → Int} (hg : ∀ a, -24000000000000000 ≤ g a ∧ g a ≤ 24000000000000000) (l : List ByteArray) : -(24000000000000000 * (l.length : Int)) ≤ sumF g l ∧ sumF g l ≤ 24000000000000000 * (l.length : Int) := by
  induction l with
  | nil => simp [sumF]
  | cons a l ih =>
    have := hg a
    simp only [sumF, List.length_cons]
    omega

end Lg
namespace Go.Proofs.YtfkcphflcmpenaaDoor
open Go.RowKit Go.Lib Go.Maps

theorem bals_sl {w : World} {B : Nat} {v : Value} {S : Lg.S} {ns : List ByteArray} {t : Int} (h : w.ownsRow B 3 1 v ns.length ((ns.map fun a => Lg.balAt S a t).flatMap intC)) : SlIn w v (fun k => v.ownBlock = some k) 1 intC (ns.map fun a => Lg.balAt S a t) := by
  refine SlIn.own (B := B) (e := 3) ?_ (fun x _ => rfl)
  rw [List.length_map]; exact h

/-- the arguments of these statements in memory -/
structure ArgsAt (w : World) (va vl : Value) (ns : List ByteArray) (bs : List (Lg.Bk × Value)) : Prop where
  a : SlOf w va 1 strC ns
  l : SlOf w vl 3 bookC bs
  p : ∀ q ∈ bs, SlOf w q.2 2 postC q.1.posts
theorem ArgsAt.below {w w' : World} {va vl : Value} {ns : List ByteArray} {bs : List (Lg.Bk × Value)} (h : ArgsAt w va vl ns bs) (hb : Below w.heap.size w w') : ArgsAt w' va vl ns bs :=
  ⟨h.a.below hb, h.l.below hb, fun q hq => (h.p q hq).below hb⟩

set_option maxRecDepth 100000 in
set_option maxHeartbeats 8000000 in
theorem zero_law (w : World) (va vl : Value) (c : Nat) (ns : List ByteArray) (bs : List (Lg.Bk × Value)) (t : Int) (h : ArgsAt w va vl ns bs) (hc : c < 65536) :
    Calls Tryd.prog 4 #[va, .int .u16 c, vl, .int .i64 t] w (Gives (.bool true) w) := by
  have HA := hid h
  obtain ⟨aa, ca, rfl, a1, a2, a3⟩ := h.a
  obtain ⟨la, lc, rfl, l1, l2, l3⟩ := h.l
  clear h a3 l3
  go_enter Tryd.func4, Tryd.ntmps4
  go_wp2_with fail
  refine (head_true w).mono ?_
  rintro e w1 ⟨rfl, hb1⟩
  have HB1 := hid hb1
  have HA1 := hid (HA.out.below hb1)
  have HFW := hid (few_any w1 _ _ ns bs HA1.out.a HA1.out.l HA1.out.p)
  clear hb1
  go_wp2_with fail
  refine (HFW.out).mono ?_
  rintro e w1' ⟨rfl, rfl⟩
  cases hf : Lg.fewB ns (bs.map Prod.fst) with
  | false =>
    clear hf
    go_wp2_with fail
    go_ret
    exact ⟨rfl, HB1.out⟩
  | true =>
    have HF := hid hf
    have HFI := hid (filled_any w1' _ _ c ns bs HA1.out.a HA1.out.l HA1.out.p hf hc)
    clear hf
    go_wp2_with fail
    refine (HFI.out).mono ?_
    rintro e w2 ⟨p, O, rfl, hL, hb2, hO⟩
    obtain ⟨f1, f2, f3, f4⟩ := Lg.fewB_posts HF.out
    have HBA := hid (balances_any w2 p _ O _ ns t hL (HA1.out.a.below hb2) f1 f3)
    have H2 := hid (And.intro hL hb2)
    clear hL hb2 hO f1 f2 f4
    go_wp2_with fail
    refine (HBA.out).mono ?_
    rintro e w3 ⟨vn, rfl, ho, hb3⟩
    obtain ⟨S, hS⟩ : ∃ S, S = Lg.filled ns (bitB c) (bs.map Prod.fst) := ⟨_, rfl⟩
    rw [← hS] at ho
    have HS := hid hS
    have hsl := (bals_sl ho).slOf
    obtain ⟨na, nc, hvn, n1, n2, n3⟩ := hsl
    rw [List.length_map] at hvn n1 n3
    subst hvn
    have HN3 := hid n3
    have hB := Below.step (Below.step HB1.out H2.out.2) hb3
    have HB := hid hB
    have HA3 := hid (HA.out.a.below hB)
    have hI := Lg.inv_filled ns (bitB c) (bs.map Prod.fst)
    rw [← hS] at hI
    have HI := hid hI
    clear ho hb3 hB n3 hI hS
    go_wp2_with fail
    go_loopw [11, 13] (fun sv iv wr => ∃ k : Nat, k ≤ ns.length ∧ iv = .int .i64 k ∧ sv = .int .i64 (Lg.sumF (fun a => Lg.balAt S a t) (ns.take k)) ∧ Hid ((ns.take k).Nodup) ∧ Hid (Below w3.heap.size w3 wr)) (fun _ iv _ => ns.length - (RowKit.intOf iv).toNat)
    case atStart => exact ⟨0, Nat.zero_le _, rfl, rfl, by simp [Hid], Below.refl _ _⟩
    case round =>
      obtain ⟨k, hk, rfl, rfl, HND, HBR⟩ := hrel
      by_cases hlt : k < ns.length
      · obtain ⟨g, o, hav, hr⟩ : ∃ g o, aa = some ⟨g, o, none⟩ ∧ RowOf w3 g o 1 strC ns := by
          obtain ⟨a', cap', e', _, _, h4⟩ := HA3.out
          cases e'
          exact h4 (by omega)
        subst hav
        obtain ⟨g2, o2, hnv, hr2⟩ := HN3.out (by omega)
        subst hnv
        obtain ⟨x, hx⟩ : ∃ x, ns[k]? = some x := ⟨_, List.getElem?_eq_getElem hlt⟩
        have hk0 : (0 : Int) ≤ (k : Int) := by omega
        have hk1 : (k : Int) < (ns.length : Int) := by omega
        have HR := hid hr
        have HR2 := hid hr2
        have HX := hid hx
        clear hr hr2 hx
        go_wp2_with fail
        go_loopw [14] (fun jv wx => ∃ j : Nat, j ≤ k ∧ jv = .int .i64 j ∧ Hid (∀ i < j, ns[i]? ≠ some x) ∧ Hid (Below w3.heap.size w3 wx)) (fun jv _ => k - (RowKit.intOf jv).toNat)
        case atStart => exact ⟨0, Nat.zero_le _, rfl, fun i hi => by omega, HBR.out⟩
        case round =>
          obtain ⟨j, hj, rfl, HJ, HBX⟩ := hrel
          by_cases hjk : j < k
          · obtain ⟨y, hy⟩ : ∃ y, ns[j]? = some y := ⟨_, List.getElem?_eq_getElem (by omega)⟩
            have c0 := (HR.out.below HBX.out).2 k x HX.out 0 _ rfl
            have c1 := (HR.out.below HBX.out).2 j y hy 0 _ rfl
            rw [Nat.add_zero, Nat.mul_one] at c0 c1
            have hg := (HR.out.below HBX.out).1
            have hj0 : (0 : Int) ≤ (j : Int) := by omega
            have hj1 : (j : Int) < (ns.length : Int) := by omega
            have hj2 : (j : Int) < (k : Int) := by omega
            have hlb := list_beq x y
            have HY := hid hy
            clear hy
            by_cases hxy : x = y
            · rw [decide_eq_true hxy] at hlb
              have HXY := hid hxy
              clear hxy
              go_wp2_with fail
              go_region
              go_wp2_with fail
              go_ret
              exact ⟨rfl, (HB.out.trans (HBX.out.mono HB.out.size)).drew⟩
            · rw [decide_eq_false hxy] at hlb
              have HXY := hid hxy
              clear hxy
              go_wp2_with fail
              go_region
              go_wp2_with fail
              go_roundw
              case rel =>
                refine ⟨j + 1, by omega, by go_num, fun i hi => ?_, HBX.out.drew⟩
                by_cases hij : i = j
                · subst hij
                  rw [HY.out]
                  intro e
                  exact HXY.out (Option.some.inj e).symm
                · exact HJ.out i (by omega)
              case measure => simp [RowKit.intOf]; omega
          · have hje : j = k := by omega
            subst hje
            have hmx : (ns.map fun a => Lg.balAt S a t)[j]? = some (Lg.balAt S x t) := by rw [List.getElem?_map, HX.out]; rfl
            have c0 := (HR2.out.below HBX.out).2 j _ hmx 0 _ rfl
            rw [Nat.add_zero, Nat.mul_one] at c0
            have hg := (HR2.out.below HBX.out).1
            have hk64 : (j : Int) < 64 := by omega
            have hbd := Lg.balAt_bound HI.out x t
            have hsb := Lg.sumF_bound (g := fun a => Lg.balAt S a t) (fun a => Lg.balAt_bound HI.out a t) (ns.take j)
            have htl : (ns.take j).length ≤ 12 := by rw [List.length_take]; omega
            obtain ⟨sm, hsm⟩ : ∃ sm, sm = Lg.sumF (fun a => Lg.balAt S a t) (ns.take j) := ⟨_, rfl⟩
            rw [← hsm] at hsb ⊢
            have hw : IntKind.i64.wrap (sm + Lg.balAt S x t) = sm + Lg.balAt S x t := IntWalk.i64_in _ (by omega)
            have HST := hid (show Lg.sumF (fun a => Lg.balAt S a t) (ns.take (j + 1)) = sm + Lg.balAt S x t by
              rw [take_snoc HX.out, Lg.sumF_append, ← hsm]; simp [Lg.sumF])
            have HN2 : Hid ((ns.take (j + 1)).Nodup) := by
              show (ns.take (j + 1)).Nodup
              rw [take_snoc HX.out, List.nodup_append]
              refine ⟨HND.out, by simp, fun y hy z hz e => ?_⟩
              simp at hz
              subst hz; subst e
              obtain ⟨i, hi⟩ := List.getElem?_of_mem hy
              rw [List.getElem?_take] at hi
              split at hi
              · rename_i hlt'
                exact HJ.out i hlt' hi
              · cases hi
            have HNB := hid (show bitB c j = false → ¬ Lg.balAt S x t < 0 from fun e hneg => by
              have := Lg.not_below (f := bitB c) (l := bs.map Prod.fst) (t := t) HX.out (fun i hi => HJ.out i hi) e
              rw [← HS.out] at this
              omega)
            clear hsm hbd hsb htl hmx
            cases hbz : (bits BinOp.and IntKind.u16 ((c : Int) / 2 ^ j) 1 == 0) with
            | true =>
              have hnn : ¬ Lg.balAt S x t < 0 := HNB.out (by
                unfold bitB bitV
                rw [beq_iff_eq] at hbz
                rw [hbz]; rfl)
              obtain ⟨bv, hbv⟩ : ∃ bv, bv = Lg.balAt S x t := ⟨_, rfl⟩
              rw [← hbv] at hnn c0 hw HST
              clear hbv
              go_wp2_with fail
              go_roundw
              case rel => exact ⟨j + 1, by omega, by go_num, by rw [HST.out], HN2, HBX⟩
              case measure => simp [RowKit.intOf]; omega
            | false =>
              go_wp2_with fail
              go_roundw
              case rel => exact ⟨j + 1, by omega, by go_num, by rw [HST.out], HN2, HBX⟩
              case measure => simp [RowKit.intOf]; omega
      · have hke : k = ns.length := by omega
        subst hke
        have hnd := HND.out
        rw [List.take_length] at hnd
        have h0 : Lg.sumF (fun a => Lg.balAt S a t) (ns.take ns.length) = 0 := by
          rw [List.take_length, HS.out]
          exact Lg.zero_sum hnd (bitB c) (bs.map Prod.fst) t
        rw [h0]
        clear h0 hnd
        go_wp2_with fail
        go_ret
        exact ⟨rfl, HB.out.trans (HBR.out.mono HB.out.size)⟩

end Go.Proofs.YtfkcphflcmpenaaDoor
