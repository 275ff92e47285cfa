/-
  ledger.Book. Conditions: lengths; room.
-/
import Derived.Test.YtfkcphflcmpenaaDoorZLedT
import Derived.Test.YtfkcphflcmpenaaDoorZLed3
import Derived.Test.YtfkcphflcmpenaaDoorZLedB
import Derived.Deep.Cut
import Derived.Deep.CutRange
import Derived.Deep.RegionHeld3
import Derived.Deep.RegionLaw
import Derived.Deep.AppendLies
namespace Go.Proofs.YtfkcphflcmpenaaDoor
open Go.RowKit Go.Lib Go.Maps

theorem zero_bool (w : World) : (zeroValue 4).run Tryd.prog w = .ok (.bool false) w := by kernel_rfl

/-- what Book's rounds leave as it is -/
structure BW (w W : World) (p ba bi bt : Nat) (v : Value) (b : Lg.Bk) (vp : Value) : Prop where
  tch : Tch (fun k => k = bt) w W
  bk : W.heap[w.heap.size]? = some (.cells #[.string b.id, .int .i64 b.at_, vp] 36 (0, 0))
  led : W.heap[p]? = some (.cells #[.map (some ba), v, .map (some bi), .map (some bt)] 55 (0, 0))

theorem BW.cells {w W : World} {p ba bi bt : Nat} {v : Value} {b : Lg.Bk} {vp : Value} (h : BW w W p ba bi bt v b vp) :
    W.cell? ⟨w.heap.size, 0, none⟩ = some (.string b.id) ∧ W.cell? ⟨w.heap.size, 1, none⟩ = some (.int .i64 b.at_) ∧ W.cell? ⟨w.heap.size, 2, none⟩ = some vp ∧ W.cell? ⟨p, 0, none⟩ = some (.map (some ba)) ∧ W.cell? ⟨p, 1, none⟩ = some v ∧
    W.cell? ⟨p, 2, none⟩ = some (.map (some bi)) ∧ W.cell? ⟨p, 3, none⟩ = some (.map (some bt)) ∧ w.heap.size < W.heap.size ∧ p < W.heap.size := by
  refine ⟨?_, ?_, ?_, ?_, ?_, ?_, ?_, (Array.getElem?_eq_some_iff.1 h.bk).1, (Array.getElem?_eq_some_iff.1 h.led).1⟩
  · simp [World.cell?, h.bk]
  · simp [World.cell?, h.bk]
  · simp [World.cell?, h.bk]
  · simp [World.cell?, h.led]
  · simp [World.cell?, h.led]
  · simp [World.cell?, h.led]
  · simp [World.cell?, h.led]
theorem BW.step {w W W' : World} {p ba bi bt : Nat} {v : Value} {b : Lg.Bk} {vp : Value} (h : BW w W p ba bi bt v b vp) (hb : Below W.heap.size W W') : BW w W' p ba bi bt v b vp :=
  ⟨h.tch.step hb, (hb.block _ (Array.getElem?_eq_some_iff.1 h.bk).1).trans h.bk, (hb.block _ (Array.getElem?_eq_some_iff.1 h.led).1).trans h.led⟩
theorem BW.grown {w W W' : World} {p ba bi bt : Nat} {v : Value} {b : Lg.Bk} {vp : Value} (h : BW w W p ba bi bt v b vp) (hg : W.grownBy W' (some bt)) (hp : p ≠ bt) (hw : bt < w.heap.size) : BW w W' p ba bi bt v b vp :=
  ⟨h.tch.grown hg (fun r e => .inl (by cases e; rfl)), (hg.block _ (Array.getElem?_eq_some_iff.1 h.bk).1 (fun e => by cases e; omega)).trans h.bk, (hg.block _ (Array.getElem?_eq_some_iff.1 h.led).1 (fun e => hp (by cases e; rfl))).trans h.led⟩
theorem BW.far {w W W' : World} {p ba bi bt : Nat} {v : Value} {b : Lg.Bk} {vp : Value} {r : Nat} (h : BW w W p ba bi bt v b vp) (hg : W.grownBy W' (some r)) (hp : p < w.heap.size) (hw : w.heap.size < r) : BW w W' p ba bi bt v b vp :=
  ⟨h.tch.grown hg (fun q e => .inr (by cases e; omega)), (hg.block _ (Array.getElem?_eq_some_iff.1 h.bk).1 (fun e => by have := Option.some.inj e; omega)).trans h.bk, (hg.block _ (Array.getElem?_eq_some_iff.1 h.led).1 (fun e => by have := Option.some.inj e; omega)).trans h.led⟩
theorem BW.drew {w W : World} {p ba bi bt : Nat} {v : Value} {b : Lg.Bk} {vp : Value} (h : BW w W p ba bi bt v b vp) : BW w W.drew p ba bi bt v b vp := h.step (Below.refl _ W).drew

theorem Below.of_grown {W W' : World} (h : W.grownBy W' none) : Below W.heap.size W W' := ⟨h.os, h.tape, h.output, h.size, fun k hk => h.block k hk (by simp)⟩

/-- what Book's last rounds leave as it is -/
structure BX (R : Nat → Prop) (w W : World) (p ba bi bt : Nat) (v : Value) (b : Lg.Bk) (vp : Value) : Prop where
  tch : Tch R w W
  bk : W.heap[w.heap.size]? = some (.cells #[.string b.id, .int .i64 b.at_, vp] 36 (0, 0))
  led : W.heap[p]? = some (.cells #[.map (some ba), v, .map (some bi), .map (some bt)] 55 (0, 0))

section
variable {R : Nat → Prop} {w W W' : World} {p ba bi bt : Nat} {v : Value} {b : Lg.Bk} {vp : Value}
theorem BW.bx (h : BW w W p ba bi bt v b vp) (hR : R bt) : BX R w W p ba bi bt v b vp := ⟨h.tch.mono (fun k e => by rw [e]; exact hR), h.bk, h.led⟩
theorem BX.cells (h : BX R w W p ba bi bt v b vp) :
    W.cell? ⟨w.heap.size, 0, none⟩ = some (.string b.id) ∧ W.cell? ⟨w.heap.size, 1, none⟩ = some (.int .i64 b.at_) ∧ W.cell? ⟨w.heap.size, 2, none⟩ = some vp ∧ W.cell? ⟨p, 0, none⟩ = some (.map (some ba)) ∧ W.cell? ⟨p, 1, none⟩ = some v ∧
    W.cell? ⟨p, 2, none⟩ = some (.map (some bi)) ∧ W.cell? ⟨p, 3, none⟩ = some (.map (some bt)) ∧ w.heap.size < W.heap.size ∧ p < W.heap.size := by
  refine ⟨?_, ?_, ?_, ?_, ?_, ?_, ?_, (Array.getElem?_eq_some_iff.1 h.bk).1, (Array.getElem?_eq_some_iff.1 h.led).1⟩
  · simp [World.cell?, h.bk]
  · simp [World.cell?, h.bk]
  · simp [World.cell?, h.bk]
  · simp [World.cell?, h.led]
  · simp [World.cell?, h.led]
  · simp [World.cell?, h.led]
  · simp [World.cell?, h.led]
theorem BX.step (h : BX R w W p ba bi bt v b vp) (hb : Below W.heap.size W W') : BX R w W' p ba bi bt v b vp :=
  ⟨h.tch.step hb, (hb.block _ (Array.getElem?_eq_some_iff.1 h.bk).1).trans h.bk, (hb.block _ (Array.getElem?_eq_some_iff.1 h.led).1).trans h.led⟩
theorem BX.grown {r : Nat} (h : BX R w W p ba bi bt v b vp) (hg : W.grownBy W' (some r)) (hR : R r) (hp : p ≠ r) (hw : r < w.heap.size) : BX R w W' p ba bi bt v b vp :=
  ⟨h.tch.grown hg (fun q e => .inl (by cases e; exact hR)), (hg.block _ (Array.getElem?_eq_some_iff.1 h.bk).1 (fun e => by have e' := Option.some.inj e; omega)).trans h.bk, (hg.block _ (Array.getElem?_eq_some_iff.1 h.led).1 (fun e => hp (Option.some.inj e))).trans h.led⟩
theorem BX.far {r : Nat} (h : BX R w W p ba bi bt v b vp) (hg : W.grownBy W' (some r)) (hp : p < w.heap.size) (hw : w.heap.size < r) : BX R w W' p ba bi bt v b vp :=
  ⟨h.tch.grown hg (fun q e => .inr (by cases e; omega)), (hg.block _ (Array.getElem?_eq_some_iff.1 h.bk).1 (fun e => by have := Option.some.inj e; omega)).trans h.bk, (hg.block _ (Array.getElem?_eq_some_iff.1 h.led).1 (fun e => by have := Option.some.inj e; omega)).trans h.led⟩
end

open Classical in
/-- one key less to come -/
noncomputable def lfDrop (lf : Value → Bool) (v : Value) : Value → Bool := fun y => if y = v then false else lf y
theorem lfDrop_same (lf : Value → Bool) (v : Value) : lfDrop lf v v = false := by unfold lfDrop; rw [if_pos rfl]
theorem lfDrop_other {lf : Value → Bool} {v y : Value} (h : y ≠ v) : lfDrop lf v y = lf y := by unfold lfDrop; rw [if_neg h]

theorem str_inv {key : Value} {kl : Lit} (h : keyOf Tryd.prog 9 key = some kl) : ∃ s, key = .string s := by
  cases key <;> simp [keyOf, Tryd.underlying9, mapKey] at h
  exact ⟨_, rfl⟩

theorem row_ne_map {α : Type} {W : World} {g o sz bt n : Nat} {cells : α → List Value} {l : List α} {P : Program} {k : TypeId} {f : Value → Option Value} (h : RowOf W g o sz cells l) (h0 : 0 < l.length) (hc : ∀ x, 0 < (cells x).length) (hm : MapF W P k bt n f) : g ≠ bt := by
  rintro rfl
  obtain ⟨D, ⟨es, clock, hb, _⟩, _⟩ := hm
  have := h.2 0 l[0] (List.getElem?_eq_getElem h0) 0 _ (List.getElem?_eq_getElem (hc _))
  simp [World.cell?, hb] at this

set_option maxRecDepth 100000 in
set_option maxHeartbeats 16000000 in
theorem book_any (w : World) (p : Nat) (S : Lg.S) (O : Nat → Prop) (b : Lg.Bk) (vp : Value) (h : Led w p S O) (hv : SlOf w vp 2 postC b.posts) (hid_ : b.id.size ≤ 5000) (hps : ∀ q ∈ b.posts, q.1.size ≤ 5000) (hf : S.books.length < 1000) :
    Calls Tryd.prog 15 #[.pointer (some ⟨p, 0, none⟩), bookV (b, vp)] w (LPost p O w (.int .i64 (Lg.code S b)) (Lg.book S b)) := by
  have HV := hid hv
  obtain ⟨a, cap, rfl, v1, v2, -⟩ := hv
  have HL := hid h
  have hI := h.inv
  obtain ⟨ba, bi, bt, v, bs, hA⟩ := h
  have HA := hid hA
  have hz := hA.lt p hA.op
  have HF := hid hf
  have HII := hid hI
  have HPS := hid hps
  obtain ⟨W1, hW1⟩ : ∃ W1, W1 = w.alloc (.cells #[.string b.id, .int .i64 b.at_, .slice a b.posts.length cap] 36) := ⟨_, rfl⟩
  have hb1 : Below w.heap.size w W1 := by rw [hW1]; exact (Below.refl _ w).alloc (Nat.le_refl _) _
  have hs1 : W1.heap[w.heap.size]? = some (.cells #[.string b.id, .int .i64 b.at_, .slice a b.posts.length cap] 36 (0, 0)) := by rw [hW1]; exact alloc_new w _
  have HFO := hid (formed_any b (.slice a b.posts.length cap) W1 (HV.out.below hb1) hid_)
  have H1 := hid (And.intro hb1 hs1)
  have HM := hid (show b.id.size ≤ maxLen by unfold maxLen; omega)
  unfold bookV at HFO ⊢
  clear hf hI hA hps hid_ hb1 hs1
  go_enter Tryd.func15, Tryd.ntmps15
  go_wp2_with fail
  rw [← hW1]
  clear hW1
  refine (HFO.out).mono ?_
  rintro e W2 ⟨rfl, hb2⟩
  obtain ⟨hb1, hs1⟩ := H1.out
  have hs2 := (hb2.block _ (Array.getElem?_eq_some_iff.1 hs1).1).trans hs1
  have hB2 := hb1.trans (hb2.mono hb1.size)
  have HB2 := hid hB2
  have HS2 := hid hs2
  have hq : w.heap.size < W2.heap.size := (Array.getElem?_eq_some_iff.1 hs2).1
  have q0 : W2.cell? ⟨w.heap.size, 0, none⟩ = some (.string b.id) := by simp [World.cell?, hs2]
  have q1 : W2.cell? ⟨w.heap.size, 1, none⟩ = some (.int .i64 b.at_) := by simp [World.cell?, hs2]
  have q2 : W2.cell? ⟨w.heap.size, 2, none⟩ = some (.slice a b.posts.length cap) := by simp [World.cell?, hs2]
  have hpb := (hB2.block p hz).trans HA.out.hp
  have c0 : W2.cell? ⟨p, 0, none⟩ = some (.map (some ba)) := by simp [World.cell?, hpb]
  have c1 : W2.cell? ⟨p, 1, none⟩ = some v := by simp [World.cell?, hpb]
  have c2 : W2.cell? ⟨p, 2, none⟩ = some (.map (some bi)) := by simp [World.cell?, hpb]
  have c3 : W2.cell? ⟨p, 3, none⟩ = some (.map (some bt)) := by simp [World.cell?, hpb]
  have hz2 : p < W2.heap.size := Nat.lt_of_lt_of_le hz hB2.size
  clear hb1 hs1 hb2 hs2 H1 HFO hpb
  have HC := hid (show Lg.code S b = if Lg.formed b = false then 1 else if S.books.any (fun z => decide (z.id = b.id)) then 9 else if Lg.early S b then 14 else if Lg.lacks S b.posts then 11
  else if 2000 ≤ S.books.length then 28 else if Lg.total b.posts ≠ 0 then 21 else if Lg.below S b.posts then 21 else 0 from rfl)
  have no : ∀ (W : World) (n : Int), Below w.heap.size w W → Lg.code S b = n → n ≠ 0 → LPost p O w (.int .i64 (Lg.code S b)) (Lg.book S b) (.returned (.int .i64 n)) W := fun W n hb e hn =>
    ⟨by rw [e], O, by rw [Lg.book_no (by rw [e]; exact hn)]; exact HL.out.below hb, Tch.of_below hb O, fun k hk => .inl hk⟩
  have NO := hid no
  clear no hB2
  cases hfo : Lg.formed b with
  | false =>
    have HE := hid (show Lg.code S b = 1 by rw [HC.out, if_pos hfo])
    clear hfo
    go_wp2_with fail
    go_ret
    exact NO.out _ _ HB2.out HE.out (by decide)
  | true =>
    have HFO := hid hfo
    clear hfo
    cases hids : S.books.any (fun z => decide (z.id = b.id)) with
    | true =>
      have HE := hid (show Lg.code S b = 9 by rw [HC.out, if_neg (by rw [HFO.out]; simp), if_pos hids])
      have HZ := hid ((show MapF W2.drew Tryd.prog 9 bi S.books.length (idsF S) from HA.out.ids.below HB2.out.drew).get str_keyed Tryd.underlying53 (zero_bool W2.drew) (str_key HM.out))
      unfold idsF at HZ
      simp only [hids, if_true, Option.getD_some] at HZ
      have hget' : (Instr.lookup 53 (.map (some bi)) (.string b.id) false).run Tryd.prog W2.drew = .ok (.bool true) W2.drew := HZ.out
      clear hids
      go_wp2_with fail
      go_region
      go_wp2_with fail
      go_ret
      exact NO.out _ _ HB2.out.drew HE.out (by decide)
    | false =>
      have HE9 := hid hids
      have HZ := hid ((show MapF W2.drew Tryd.prog 9 bi S.books.length (idsF S) from HA.out.ids.below HB2.out.drew).get str_keyed Tryd.underlying53 (zero_bool W2.drew) (str_key HM.out))
      unfold idsF at HZ
      simp only [hids, Bool.false_eq_true, if_false, Option.getD_none] at HZ
      have hget' : (Instr.lookup 53 (.map (some bi)) (.string b.id) false).run Tryd.prog W2.drew = .ok (.bool false) W2.drew := HZ.out
      clear hids
      obtain ⟨va, vc, hvv⟩ := ownsRow_slice HA.out.row
      obtain ⟨n, hn⟩ : ∃ n, n = bs.length := ⟨_, rfl⟩
      rw [hvv, ← hn] at c1
      have HN := hid (And.intro hn hvv)
      have hnl : n = S.books.length := by rw [hn, ← HA.out.books, List.length_map]
      have HNL := hid hnl
      have hn0 : (n : Int) < 1000 := by have := HF.out; omega
      clear hn hvv hnl
      go_wp2_with fail
      go_region
      obtain ⟨W3, hW3⟩ : ∃ W3, W3 = W2.drew := ⟨_, rfl⟩
      have hBW : BW w W3 p ba bi bt v b (.slice a b.posts.length cap) := by
        have h2 : BW w W2 p ba bi bt v b (.slice a b.posts.length cap) := ⟨Tch.of_below HB2.out _, HS2.out, (HB2.out.block p hz).trans HA.out.hp⟩
        rw [hW3]; exact h2.drew
      rw [← hW3] at HZ ⊢
      have HBW := hid hBW
      have HB3 := hid (show Below w.heap.size w W3 by rw [hW3]; exact HB2.out.drew)
      have HNB := hid (And.intro HA.out.npt (HA.out.lt bt HA.out.ot))
      clear hget' hW3 q0 q1 q2 c0 c1 c2 c3 hq hz2 HB2 HS2 HZ
      obtain ⟨q0, q1, q2, c0, c1, c2, c3, hq, hz2⟩ := hBW.cells
      rw [HN.out.2, ← HN.out.1] at c1
      clear hBW W2
      obtain ⟨ft, nt, hft⟩ := HA.out.trial
      have HT := hid (show MapF W3.drew Tryd.prog 9 bt nt ft from hft.below HB3.out.drew)
      clear hft
      obtain ⟨early, hearly⟩ : ∃ e, e = Lg.early S b := ⟨_, rfl⟩
      have HEA := hid hearly
      clear hearly
      go_upto_region 6 with (fail)
      go_cut [49] from 29 (fun v49 wx => v49 = .bool early ∧ wx = W3.drew)
      case first =>
        by_cases hn1 : n = 0
        · have hd : decide ((0 : Int) < (n : Int)) = false := by rw [hn1]; rfl
          have hd2 : decide (0 < n) = false := by rw [hn1]; rfl
          have HE := hid (show early = false by
            rw [HEA.out]
            unfold Lg.early
            have : S.books = [] := List.length_eq_zero_iff.1 (by rw [← HNL.out]; exact hn1)
            rw [this]; rfl)
          clear hn1 hd
          go_region
          go_wp2
          go_meet
          case rel => exact ⟨by rw [HE.out], rfl⟩
        · obtain ⟨m, hm⟩ : ∃ m, n = m + 1 := ⟨n - 1, by omega⟩
          have hd : decide ((0 : Int) < (n : Int)) = true := by rw [decide_eq_true_eq]; omega
          have hd2 : decide (0 < n) = true := by rw [decide_eq_true_eq]; omega
          have hw : IntKind.i64.wrap ((n : Int) - 1) = (m : Int) := by rw [IntWalk.i64_in _ (by omega)]; omega
          have hm0 : (0 : Int) ≤ (m : Int) := by omega
          have hm1 : (m : Int) < (n : Int) := by omega
          have hml : m < bs.length := by rw [← HN.out.1]; omega
          obtain ⟨⟨z, vz⟩, hzm⟩ : ∃ q, bs[m]? = some q := ⟨_, List.getElem?_eq_getElem hml⟩
          obtain ⟨a', cap', ea, _, _, h4⟩ := SlIn.own HA.out.row (fun x _ => rfl)
          obtain ⟨g, o, rfl, -, hr⟩ := h4 (by omega)
          have hva : va = some ⟨g, o, none⟩ := by
            have := HN.out.2.symm.trans ea
            simp at this
            exact this.1
          have e1 := (hr.below HB3.out).2 m _ hzm 1 _ rfl
          have hg := (hr.below HB3.out).1
          subst hva
          have HE := hid (show early = decide (b.at_ < z.at_) by
            rw [HEA.out]
            unfold Lg.early
            have : S.books.getLast? = some z := by
              rw [List.getLast?_eq_getElem?, ← HNL.out, ← HA.out.books, hm]
              rw [List.getElem?_map, show m + 1 - 1 = m by omega, hzm]; rfl
            rw [this])
          clear hm hn1 hr h4 ea hzm
          have HK := hid (show W3.drew.cell? ⟨w.heap.size, 1, none⟩ = some (.int .i64 b.at_) ∧ W3.drew.cell? ⟨p, 1, none⟩ = some (.slice (some ⟨g, o, none⟩) n vc) ∧ W3.drew.cell? ⟨g, o + m * 3 + 1, none⟩ = some (.int .i64 z.at_) from ⟨q1, c1, e1⟩)
          go_region_held3 (fun wx => wx.cell? ⟨w.heap.size, 1, none⟩ = some (.int .i64 b.at_) ∧ wx.cell? ⟨p, 1, none⟩ = some (.slice (some ⟨g, o, none⟩) n vc) ∧ wx.cell? ⟨g, o + m * 3 + 1, none⟩ = some (.int .i64 z.at_))
            (first | exact HK.out | assumption) (fail)
          go_wp2
          go_meet
          case rel => exact ⟨by rw [HE.out], rfl⟩
      case rest =>
      obtain ⟨rfl, hwc⟩ := hcut
      rw [hwc]
      clear hwc
      have hX : ∀ q : World, True := fun _ => trivial
      clear hX
      cases early with
      | true =>
        have HE := hid (show Lg.code S b = 14 by rw [HC.out, if_neg (by rw [HFO.out]; simp), if_neg (by rw [HE9.out]; simp), if_pos HEA.out.symm])
        go_wp2_with fail
        go_ret
        exact NO.out _ _ HB3.out.drew HE.out (by decide)
      | false =>
        obtain ⟨W4, hclr, hM4, hg4⟩ := HT.out.cleared Tryd.underlying52 0
        have hbw4 : BW w W4 p ba bi bt v b (.slice a b.posts.length cap) := HBW.out.drew.grown hg4 HNB.out.1 HNB.out.2
        obtain ⟨q0', q1', q2', c0', c1', c2', c3', hq', hz'⟩ := hbw4.cells
        rw [HN.out.2, ← HN.out.1] at c1'
        have HB4 := hid hbw4
        have HM4 := hid hM4
        clear hg4 hM4 hbw4
        have hE14 := hid (show Lg.early S b = false from HEA.out.symm)
        have hlen := Lg.formed_len HFO.out
        have hnd := Lg.formed_nodup HFO.out
        have hun := Lg.formed_units HFO.out
        obtain ⟨g2, o2, hav, hrow⟩ : ∃ g o, a = some ⟨g, o, none⟩ ∧ RowOf w g o 2 postC b.posts := by
          obtain ⟨a', cap', e, _, _, h3⟩ := HV.out
          cases e
          exact h3 (by omega)
        subst hav
        have HR := hid (show ∀ W, Tch (fun k => k = bt) w W → RowOf W g2 o2 2 postC b.posts from fun W ht => hrow.tch ht (by
          obtain ⟨f, n, hf⟩ := HA.out.trial
          exact row_ne_map hrow (by omega) (fun _ => by simp [postC]) hf))
        have HR2 := hid (show ∀ W, Tch (fun k => k = bt ∨ k = ba) w W → RowOf W g2 o2 2 postC b.posts from fun W ht => hrow.tch ht (fun e => by
          obtain ⟨f, n, hf⟩ := HA.out.trial
          rcases e with e | e
          · exact row_ne_map hrow (by omega) (fun _ => by simp [postC]) hf e
          · exact row_ne_map hrow (by omega) (fun _ => by simp [postC]) HA.out.acc e))
        have NO2 := hid (show ∀ (W : World) (nn : Int), Tch (fun k => k = bt) w W → (∃ f n, MapF W Tryd.prog 9 bt n f) → Lg.code S b = nn → nn ≠ 0 → LPost p O w (.int .i64 (Lg.code S b)) (Lg.book S b) (.returned (.int .i64 nn)) W from fun W nn ht hm e hn =>
          ⟨by rw [e], O, by
            rw [Lg.book_no (by rw [e]; exact hn)]
            exact ⟨ba, bi, bt, v, bs, HA.out.maps (ht.mono fun k e => .inr (.inr e)) (HA.out.acc.tch ht HA.out.nat) (HA.out.ids.tch ht HA.out.nit) hm rfl HII.out⟩, ht.mono (fun k e => by rw [e]; exact HA.out.ot), fun k hk => .inl hk⟩)
        have HND := hid hnd
        have HUN := hid hun
        clear hrow hnd hun
        go_wp2_with fail
        go_loopw [6, 57] (fun sv iv wr => ∃ k : Nat, k ≤ b.posts.length ∧ iv = .int .i64 k ∧ sv = .int .i64 (Lg.total (b.posts.take k)) ∧ Hid (Lg.lacks S (b.posts.take k) = false) ∧ Hid (BW w wr p ba bi bt v b (.slice (some ⟨g2, o2, none⟩) b.posts.length cap)) ∧ Hid (MapF wr Tryd.prog 9 bt k (trialF S (b.posts.take k)))) (fun _ iv _ => b.posts.length - (RowKit.intOf iv).toNat)
        case atStart => exact ⟨0, Nat.zero_le _, rfl, rfl, rfl, HB4.out, HM4.out.congr (fun x _ _ => by unfold trialF; split <;> simp [hasP])⟩
        case round =>
          obtain ⟨k, hk, rfl, rfl, HLA, HBR, HMR⟩ := hrel
          by_cases hlt : k < b.posts.length
          · obtain ⟨x, hx⟩ : ∃ x, b.posts[k]? = some x := ⟨_, List.getElem?_eq_getElem hlt⟩
            have hc := (HR.out wr HBR.out.tch).2 k x hx
            have d0 := hc 0 _ rfl
            have d1 := hc 1 _ rfl
            rw [Nat.add_zero] at d0
            have hg := (HR.out wr HBR.out.tch).1
            have hk0 : (0 : Int) ≤ (k : Int) := by omega
            have hk1 : (k : Int) < (b.posts.length : Int) := by omega
            have HX := hid hx
            have hxm := List.mem_of_getElem? hx
            have HXS := hid (HPS.out x hxm)
            obtain ⟨W5, hW5⟩ : ∃ W5, W5 = wr.alloc (.cells #[.string x.1, .int .i64 x.2] 47) := ⟨_, rfl⟩
            have hb5 : Below wr.heap.size wr W5 := by rw [hW5]; exact (Below.refl _ wr).alloc (Nat.le_refl _) _
            have hs5 : W5.heap[wr.heap.size]? = some (.cells #[.string x.1, .int .i64 x.2] 47 (0, 0)) := by rw [hW5]; exact alloc_new wr _
            have H5 := hid (And.intro hb5 hs5)
            have hxz : wr.heap.size < W5.heap.size := by rw [hW5, World.size_alloc]; omega
            have HB5 := hid (HBR.out.step hb5)
            obtain ⟨r0, r1, r2, s0, s1, s2, s3, hrq, hrz⟩ := HB5.out.cells
            rw [HN.out.2, ← HN.out.1] at s1
            have x0 : W5.cell? ⟨wr.heap.size, 0, none⟩ = some (.string x.1) := by simp [World.cell?, hs5]
            have x1 : W5.cell? ⟨wr.heap.size, 1, none⟩ = some (.int .i64 x.2) := by simp [World.cell?, hs5]
            have hkm : x.1.size ≤ maxLen := by have := HXS.out; unfold maxLen; omega
            have hM5 : MapF W5 Tryd.prog 9 ba S.names.length (accF S) := HA.out.acc.tch HB5.out.tch HA.out.nat
            clear hc hx hb5 hs5 q0 q1 q2 c0 c1 c2 c3 hq hz2 hclr q0' q1' q2' c0' c1' c2' c3' hq' hz'
            have HC5 := hid (show ∀ y : Array Value, Tch (fun k => k = bt) w (W5.alloc (.cells y 61)).drew from fun y => HB5.out.tch.step (((Below.refl _ W5).alloc (Nat.le_refl _) _).drew))
            have hal : ∀ y : Array Value, Below W5.heap.size W5 (W5.alloc (.cells y 61)).drew := fun y => ((Below.refl _ W5).alloc (Nat.le_refl _) _).drew
            have HAL := hid hal
            clear hal
            cases hcr : Lg.credit S x.1 with
            | none =>
              have hl1 := (show MapF W5.drew Tryd.prog 9 ba S.names.length (accF S) from hM5).getOk str_keyed Tryd.underlying52 (zero_acc W5.drew) (str_key hkm)
              have hl2 := (hM5.below (HAL.out #[.int .i64 0, .bool false])).getOk str_keyed Tryd.underlying52 (zero_acc _) (str_key hkm)
              unfold accF at hl1 hl2
              simp only [hcr, Option.map_none, Option.getD_none, Option.isSome_none] at hl1 hl2
              have HE := hid (show Lg.code S b = 11 by
                rw [HC.out, if_neg (by rw [HFO.out]; simp), if_neg (by rw [HE9.out]; simp), if_neg (by rw [hE14.out]; simp), if_pos]
                unfold Lg.lacks
                rw [List.any_eq_true]
                exact ⟨x, hxm, by rw [hcr]; rfl⟩)
              have HM5 := hid (show ∀ y : Array Value, ∃ f n, MapF (W5.alloc (.cells y 61)).drew Tryd.prog 9 bt n f from fun y => ⟨_, _, (HMR.out.below H5.out.1).below (HAL.out y)⟩)
              clear hcr hxm hM5
              go_upto_region 13 with (fail)
              rw [← hW5]
              clear hW5
              go_region
              all_goals (go_wp2_with fail)
              all_goals go_ret
              all_goals exact NO2.out _ _ (HC5.out _) (HM5.out _) HE.out (by decide)
            | some c =>
              have HCR := hid hcr
              have hl1 := (show MapF W5.drew Tryd.prog 9 ba S.names.length (accF S) from hM5).getOk str_keyed Tryd.underlying52 (zero_acc W5.drew) (str_key hkm)
              have hl2 := (hM5.below (HAL.out #[.int .i64 0, .bool false])).getOk str_keyed Tryd.underlying52 (zero_acc _) (str_key hkm)
              unfold accF at hl1 hl2
              simp only [hcr, Option.map_some, Option.getD_some, Option.isSome_some, accV] at hl1 hl2
              clear hcr
              go_upto_region 13 with (fail)
              rw [← hW5]
              clear hW5
              go_cut [9, 10] from 61 to 90 (fun v9 v10 wx => v9 = .pointer (some ⟨W5.heap.size, 0, none⟩) ∧ v10 = .bool true ∧ Below W5.heap.size W5 wx ∧ wx.heap[W5.heap.size]? = some (.cells #[.int .i64 (Lg.sumB S.books x.1), .bool c] 61 (0, 0)))
              case first =>
                go_region
                all_goals (go_wp2_with fail)
                all_goals (go_meet)
                all_goals exact ⟨rfl, rfl, HAL.out _, alloc_new W5 _⟩
              case rest =>
              obtain ⟨rfl, rfl, hb6, hs6⟩ := hcut
              rename World => W6
              have hB6 := HB5.out.step hb6
              obtain ⟨r0', r1', r2', s0', s1', s2', s3', hrq', hrz'⟩ := hB6.cells
              rw [HN.out.2, ← HN.out.1] at s1'
              have x0' := (hb6.cell (p := ⟨wr.heap.size, 0, none⟩) hxz).trans x0
              have x1' := (hb6.cell (p := ⟨wr.heap.size, 1, none⟩) hxz).trans x1
              have y0 : W6.cell? ⟨W5.heap.size, 0, none⟩ = some (.int .i64 (Lg.sumB S.books x.1)) := by simp [World.cell?, hs6]
              have y1 : W6.cell? ⟨W5.heap.size, 1, none⟩ = some (.bool c) := by simp [World.cell?, hs6]
              have f0 : W6.frozen? ⟨W5.heap.size, 0, none⟩ = false := by simp [World.frozen?, hs6]
              have y6 : W5.heap.size < W6.heap.size := (Array.getElem?_eq_some_iff.1 hs6).1
              have hbnd := Lg.sumB_bound (fun z hz => Lg.formed_units (HII.out.formed z hz)) x.1
              have hxu := HUN.out.2 x hxm
              have hfew := HII.out.fewB
              have hw1 : IntKind.i64.wrap (Lg.sumB S.books x.1 + x.2) = Lg.sumB S.books x.1 + x.2 := IntWalk.i64_in _ (by omega)
              have htb := Lg.total_bound (l := b.posts.take k) (fun q hq => HUN.out.2 q (List.mem_of_mem_take hq))
              have htl : (b.posts.take k).length ≤ 12 := by rw [List.length_take]; omega
              have hw2 : IntKind.i64.wrap (Lg.total (b.posts.take k) + x.2) = Lg.total (b.posts.take k) + x.2 := IntWalk.i64_in _ (by omega)
              obtain ⟨W7, hW7⟩ : ∃ W7, W7 = W6.setCell ⟨W5.heap.size, 0, none⟩ (.int .i64 (Lg.sumB S.books x.1 + x.2)) := ⟨_, rfl⟩
              have hb7 : Below W5.heap.size W5 W7 := by rw [hW7]; exact hb6.setCell (p := ⟨W5.heap.size, 0, none⟩) (Nat.le_refl _) _
              have hs7 : W7.heap[W5.heap.size]? = some (.cells #[.int .i64 (Lg.sumB S.books x.1 + x.2), .bool c] 61 (0, 0)) := by
                rw [hW7]; simp [World.setCell, Array.getElem?_modify, hs6]
              have hB7 := HB5.out.step hb7
              have H7 := hid (And.intro hb7 (And.intro hs7 hB7))
              have HS := hid (Lg.total_append (b.posts.take k) [x])
              clear hb6 hs6 hB6 hb7 hs7 hB7 hbnd hxu hfew htb htl r0 r1 r2 s0 s1 s2 s3 x0 x1 hl1 hl2
              go_upto_region 17 with (fail)
              rw [← hW7]
              clear hW7
              obtain ⟨hb7, hs7, hB7⟩ := H7.out
              clear r0' r1' r2' s0' s1' s2' s3' x0' x1' y0 y1 f0
              obtain ⟨r0', r1', r2', s0', s1', s2', s3', hrq'', hrz''⟩ := hB7.cells
              rw [HN.out.2, ← HN.out.1] at s1'
              have x0' : W7.cell? ⟨wr.heap.size, 0, none⟩ = some (.string x.1) := by rw [hb7.cell (p := ⟨wr.heap.size, 0, none⟩) hxz]; simp [World.cell?, H5.out.2]
              have x1' : W7.cell? ⟨wr.heap.size, 1, none⟩ = some (.int .i64 x.2) := by rw [hb7.cell (p := ⟨wr.heap.size, 1, none⟩) hxz]; simp [World.cell?, H5.out.2]
              have y0 : W7.cell? ⟨W5.heap.size, 0, none⟩ = some (.int .i64 (Lg.sumB S.books x.1 + x.2)) := by simp [World.cell?, hs7]
              have y1 : W7.cell? ⟨W5.heap.size, 1, none⟩ = some (.bool c) := by simp [World.cell?, hs7]
              have hst := trial_step HND.out HX.out HCR.out
              have hM7 : MapF W7.drew Tryd.prog 9 bt k (trialF S (b.posts.take k)) := (HMR.out.below H5.out.1).below hb7.drew
              obtain ⟨W8, hput, hM8, hg8⟩ := hM7.put str_keyed Tryd.underlying52 (by unfold maxLen; omega) (str_key hkm) hst.1 hst.2
              unfold accV at hput
              have hb8 := hB7.drew.grown hg8 HNB.out.1 HNB.out.2
              have hwz : wr.heap.size < W7.heap.size := Nat.lt_of_lt_of_le hxz hb7.size
              have hwb : w.heap.size ≤ wr.heap.size := HBR.out.tch.size
              have x8 : W8.cell? ⟨wr.heap.size, 1, none⟩ = some (.int .i64 x.2) := by
                refine (World.cell?_of_block (a := ⟨wr.heap.size, 1, none⟩) (hg8.block _ hwz (fun e => ?_))).trans x1'
                have := HNB.out.2
                have e' : wr.heap.size = bt := Option.some.inj e
                omega
              have H8 := hid (And.intro hb8 hM8)
              clear hb7 hs7 hB7 hst hM7 hb8 hM8 hg8
              go_region
              go_wp2_with fail
              go_roundw
              case rel =>
                refine ⟨k + 1, by omega, by go_num, ?_, ?_, H8.out.1, H8.out.2⟩
                · rw [take_snoc HX.out, HS.out]
                  simp [Lg.total]
                · show Lg.lacks S (b.posts.take (k + 1)) = false
                  rw [take_snoc HX.out]
                  have := HLA.out
                  unfold Lg.lacks at this ⊢
                  rw [List.any_append, this]
                  simp [HCR.out]
              case measure => simp [RowKit.intOf]; omega
          · have hke : k = b.posts.length := by omega
            subst hke
            have HMT : Hid (MapF wr Tryd.prog 9 bt b.posts.length (trialF S b.posts)) := by
              have := HMR.out
              rwa [List.take_length] at this
            have HLK : Hid (Lg.lacks S b.posts = false) := by
              have := HLA.out
              rwa [List.take_length] at this
            rw [List.take_length]
            clear HMR HLA q0 q1 q2 c0 c1 c2 c3 hq hz2 hclr q0' q1' q2' c0' c1' c2' c3' hq' hz'
            have HBR2 := hid HBR.out
            obtain ⟨q0, q1, q2, c0, c1, c2, c3, hq, hz2⟩ := HBR.out.cells
            rw [HN.out.2, ← HN.out.1] at c1
            have hn2 : ¬ (2000 : Int) ≤ (n : Int) := by omega
            have HC2 := hid (show Lg.code S b = if Lg.total b.posts ≠ 0 then 21 else if Lg.below S b.posts then 21 else 0 by
              rw [HC.out, if_neg (by rw [HFO.out]; simp), if_neg (by rw [HE9.out]; simp), if_neg (by rw [hE14.out]; simp), if_neg (by rw [HLK.out]; simp), if_neg (by have := HF.out; omega)])
            by_cases ht0 : Lg.total b.posts = 0
            · have HT0 := hid ht0
              have htb : (Lg.total b.posts != 0) = false := by rw [ht0]; rfl
              rw [ht0]
              clear ht0 htb
              go_wp2_with (at_range; refine wpList_rangeM _ rfl _ 52 rfl 61 str_keyed Tryd.underlying52 rfl HMT.out ?_; intro W9 lf0 cnt0 hR9 hlf hg9 hz9)
              try go_frame
              have hB9 := HBR2.out.step (Below.of_grown hg9)
              have HB9 := hid hB9
              have hpw := HA.out.lt p HA.out.op
              have hR0 : w.heap.size < wr.heap.size := hq
              obtain ⟨R0, hRR⟩ : ∃ R0, R0 = wr.heap.size := ⟨_, rfl⟩
              rw [← hRR] at hR9 hR0 ⊢
              clear hRR hg9 hz9 hB9 q0 q1 q2 c0 c1 c2 c3 hq hz2
              have HR9 := hid hR9
              have HLF := hid hlf
              clear hR9 hlf
              go_loopw [105] (fun _ wx => ∃ lf cnt, MapR wx Tryd.prog 9 bt R0 b.posts.length (trialF S b.posts) lf cnt ∧ Hid (∀ s, s.size ≤ 5000 → hasP s b.posts = true → lf (.string s) = false → ¬ (Lg.credit S s = some false ∧ Lg.sumB S.books s + Lg.sumP b.posts s < 0)) ∧ Hid (BW w wx p ba bi bt v b (.slice (some ⟨g2, o2, none⟩) b.posts.length cap))) (fun _ wx => wx.rangeLeft bt R0)
              case atStart =>
                refine ⟨lf0, cnt0, HR9.out, fun s hs hh hl => ?_, HB9.out⟩
                exfalso
                obtain ⟨q, hqm, hq1, _⟩ := hasP_get HND.out hh
                have hcs := Lg.lacks_false HLK.out q hqm
                rw [hq1] at hcs
                obtain ⟨d, hd⟩ := Option.isSome_iff_exists.1 hcs
                have := HLF.out (.string s) _ (str_key (by unfold maxLen; omega)) (by unfold trialF; simp only; rw [if_pos hh, hd]; rfl)
                rw [hl] at this
                cases this
              case round =>
                obtain ⟨lf, cnt, hR, HLFs, HBX⟩ := hrel
                have HR := hid hR
                have hle := hR.left_eq
                clear hR
                go_wp2_with (at_next; refine wpList_nextM _ rfl _ rfl str_keyed Value.string (fun _ _ h => str_inv h) rfl HR.out ?_ ?_)
                · intro hl0
                  have hsz : ∀ s, hasP s b.posts = true → s.size ≤ 5000 := fun s hh => by
                    obtain ⟨q, hqm, hq1, _⟩ := hasP_get HND.out hh
                    rw [← hq1]; exact HPS.out q hqm
                  have HSZ := hid hsz
                  have hbl : Lg.below S b.posts = false := below_no HND.out (fun s hh hc => by
                    have hss := hsz s hh
                    by_cases hneg : Lg.sumB S.books s + Lg.sumP b.posts s < 0
                    · exact absurd ⟨hc, hneg⟩ (HLFs.out s hss hh (hl0 _ _ (str_key (by unfold maxLen; omega))))
                    · omega)
                  have HE := hid (show Lg.code S b = 0 by rw [HC2.out, if_neg (by rw [HT0.out]; simp), if_neg (by rw [hbl]; simp)])
                  obtain ⟨q0, q1, q2, c0, c1, c2, c3, hq, hz2⟩ := HBX.out.cells
                  rw [HN.out.2, ← HN.out.1] at c1
                  clear hsz hbl hl0 HR9 HLF
                  go_wp2_with (at_range; refine wpList_rangeM _ rfl _ 52 rfl 61 str_keyed Tryd.underlying52 rfl HR.out.mapF ?_; intro W10 lf1 cnt1 hR1 hlf1 hg1 hz1)
                  try go_frame
                  have hM10 : MapF W10 Tryd.prog 9 ba S.names.length (accF S) := (HA.out.acc.tch HBX.out.tch HA.out.nat).below (Below.of_grown hg1)
                  have HB10 := hid (show BX (fun k => k = bt ∨ k = ba) w W10 p ba bi bt v b (.slice (some ⟨g2, o2, none⟩) b.posts.length cap) from (HBX.out.bx (.inl rfl)).step (Below.of_grown hg1))
                  have HM10 := hid (show MapF W10 Tryd.prog 9 ba S.names.length (mixF S b.posts lf1) from hM10.congr (fun x kl hk => by
                    refine mix_start (fun s hs => ?_) x
                    obtain ⟨v', hv'⟩ := Option.isSome_iff_exists.1 hs
                    have hss := HSZ.out s (trial_some hv').1
                    exact hlf1 _ _ (str_key (by unfold maxLen; omega)) hs))
                  have hR1z : w.heap.size < wr.heap.size := hq
                  obtain ⟨R1, hRR⟩ : ∃ R1, R1 = wr.heap.size := ⟨_, rfl⟩
                  rw [← hRR] at hR1 hR1z ⊢
                  have HR1 := hid hR1
                  clear hRR hR1 hlf1 hg1 hz1 hM10 q0 q1 q2 c0 c1 c2 c3 hq hz2
                  go_loopw [122] (fun _ wz => ∃ lf cnt, MapR wz Tryd.prog 9 bt R1 b.posts.length (trialF S b.posts) lf cnt ∧ Hid (MapF wz Tryd.prog 9 ba S.names.length (mixF S b.posts lf)) ∧ Hid (BX (fun k => k = bt ∨ k = ba) w wz p ba bi bt v b (.slice (some ⟨g2, o2, none⟩) b.posts.length cap))) (fun _ wz => wz.rangeLeft bt R1)
                  case atStart => exact ⟨lf1, cnt1, HR1.out, HM10.out, HB10.out⟩
                  case round =>
                    obtain ⟨lf, cnt, hR, HMX, HBX⟩ := hrel
                    have HR := hid hR
                    have hle := hR.left_eq
                    clear hR
                    go_wp2_with (at_next; refine wpList_nextM _ rfl _ rfl str_keyed Value.string (fun _ _ h => str_inv h) rfl HR.out ?_ ?_)
                    · intro hl0
                      have hM11 : MapF wr Tryd.prog 9 ba S.names.length (accF ⟨S.names, S.books ++ [b]⟩) := HMX.out.congr (fun z kl hk => by
                        refine (mix_end (fun s _ hs => ?_) z).symm
                        have hss := HSZ.out s hs
                        exact hl0 _ _ (str_key (by unfold maxLen; omega)))
                      have HM11 := hid hM11
                      have HRM := hid HR.out.mapF
                      clear hl0 hM11 hle
                      obtain ⟨q0, q1, q2, c0, c1, c2, c3, hq, hz2⟩ := HBX.out.cells
                      rw [HN.out.2, ← HN.out.1] at c1
                      have HCL := hid (clone_posts b.posts (.slice (some ⟨g2, o2, none⟩) b.posts.length cap) wr ⟨_, cap, rfl, v1, v2, fun _ => ⟨g2, o2, rfl, HR2.out wr HBX.out.tch⟩⟩ (by omega) (by omega))
                      have q2f : wr.frozen? ⟨w.heap.size, 2, none⟩ = false := by simp [World.frozen?, HBX.out.bk]
                      go_wp2_with fail
                      refine (HCL.out).mono ?_
                      rintro e W13 ⟨vc0, rfl, ho13, hb13⟩
                      obtain ⟨a1, n1, rfl⟩ := ownsRow_slice ho13
                      have hB13 := HBX.out.step hb13
                      obtain ⟨Wx, hWx⟩ : ∃ Wx, Wx = W13.setCell ⟨w.heap.size, 2, none⟩ (.slice a1 b.posts.length n1) := ⟨_, rfl⟩
                      have hbk := hB13.bk
                      have hled := hB13.led
                      obtain ⟨hownY, hnews⟩ := book_pre HA.out HBX.out.tch HBX.out.bk hb13 hWx
                      have hlast := @book_last _ _ _ _ _ _ _ _ _ _ _ _ _ _ _ _ _ HA.out HBX.out.tch HBX.out.bk HBX.out.led HM11.out HRM.out hb13 ho13 hWx HE.out HF.out HM.out
                      obtain ⟨i0, hi, hza, hzb, hzc⟩ := info_parts Tryd.infoBk
                      have hq13 : w.heap.size < W13.heap.size := (Array.getElem?_eq_some_iff.1 hbk).1
                      have hp13 : p < W13.heap.size := (Array.getElem?_eq_some_iff.1 hled).1
                      have q2' : W13.cell? ⟨w.heap.size, 2, none⟩ = some (.slice (some ⟨g2, o2, none⟩) b.posts.length cap) := by simp [World.cell?, hbk]
                      have q2g : W13.frozen? ⟨w.heap.size, 2, none⟩ = false := by simp [World.frozen?, hbk]
                      have hbx : Wx.heap[w.heap.size]? = some (.cells #[.string b.id, .int .i64 b.at_, (.slice a1 b.posts.length n1)] 36 (0, 0)) := by
                        rw [hWx]; simp [World.setCell, Array.getElem?_modify, hbk]
                      have hlx : Wx.heap[p]? = some (.cells #[.map (some ba), v, .map (some bi), .map (some bt)] 55 (0, 0)) := by
                        rw [hWx]; exact (Below.heap_setCell _ _ _ _ (by simp only; omega)).trans hled
                      have z0 : Wx.cell? ⟨w.heap.size, 0, none⟩ = some (.string b.id) := by simp [World.cell?, hbx]
                      have z1 : Wx.cell? ⟨w.heap.size, 1, none⟩ = some (.int .i64 b.at_) := by simp [World.cell?, hbx]
                      have z2 : Wx.cell? ⟨w.heap.size, 2, none⟩ = some (.slice a1 b.posts.length n1) := by simp [World.cell?, hbx]
                      have z3 : Wx.cell? ⟨p, 1, none⟩ = some (.slice va n vc) := by simp [World.cell?, hlx]; rw [HN.out.2, ← HN.out.1]
                      have z4 : w.heap.size < Wx.heap.size := (Array.getElem?_eq_some_iff.1 hbx).1
                      have z5 : p < Wx.heap.size := (Array.getElem?_eq_some_iff.1 hlx).1
                      rw [HN.out.2, ← HN.out.1] at hownY
                      have hnl : (n + 1) * 48 ≤ 140737488355328 := by omega
                      have hnm : n + 1 ≤ maxLen := by unfold maxLen; omega
                      have HLA := hid (show ∀ g cp w1, w1.ownsRow 0 36 3 (.slice (some ⟨g, 0, none⟩) (n + 1) cp) (n + 1) (bs.flatMap bookC ++ [.string b.id, .int .i64 b.at_, (.slice a1 b.posts.length n1)]) → (Wx.alloc (.cells #[.string b.id, .int .i64 b.at_, (.slice a1 b.posts.length n1)] 36)).drew.grownBy w1 (Value.slice va n vc).ownBlock → ((Value.slice va n vc).ownBlock = some g ∨ g = Wx.heap.size + 1) → _ from fun g cp w1 h1 h2 h3 =>
                        hlast (v' := .slice (some ⟨g, 0, none⟩) (n + 1) cp) (W14 := w1) (by rw [← HN.out.1]; exact h1) (by rw [HN.out.2, ← HN.out.1]; exact h2) (fun g' hg' => by
                          have : g = g' := Option.some.inj hg'
                          subst this
                          rw [HN.out.2, ← HN.out.1]; exact h3))
                      have HCL2 := hid HE.out
                      have hvone : (Value.slice a1 b.posts.length n1).oneCell' = true := rfl
                      have hnews' := hnews
                      clear hB13 hbk hled hbx hlx ho13 hb13 HCL q0 q1 q2 c0 c1 c2 c3 hq hz2 q2f hlast
                      go_upto_region 34 with (fail)
                      rw [← hWx]
                      clear hWx
                      go_region_law ((refine step_append_lies _ (by rfl) _ _ _ (by rfl) 0 36 i0 (.agg #[.string ⟨#[]⟩, .int .i64 0, .slice none 0 0]) 3 48 Tryd.underlying24 hi hza hzb hzc rfl (by decide) (.slice va n vc) n (bs.flatMap bookC) (by rfl) hownY ⟨Wx.heap.size, 0, none⟩ 1 1 [.string b.id, .int .i64 b.at_, (.slice a1 b.posts.length n1)] (by rfl) (by rfl) hnews (book_row hvone) (by decide) hnm hnl (Nat.zero_le _) (Wx.heap.size + 1) (by simp) ?_; intro g cp w1 hown1 hgrow hat hlt1; obtain ⟨W16, e1, e2, e3, e4, e5, e6, hput, hLP⟩ := HLA.out g cp w1 hown1 hgrow hat))
                      all_goals (
                        go_upto_region 35 with (fail)
                        go_region
                        go_wp2_with fail
                        go_ret
                        rw [HCL2.out, Lg.book_ok HCL2.out]
                        exact hLP)
                    · intro y c0 kl wy cnt' hkl hly hfy hRy hlt hgy hsy hen
                      have hms := mix_step (lf := lf) hfy (lfDrop_same _ _) (fun _ h => lfDrop_other h)
                      have hmi := mix_some (lf := lf) hfy
                      obtain ⟨hyh, cr, hyc, rfl⟩ := trial_some hfy
                      have hys := HSZ.out y hyh
                      have hBY := HBX.out.far hgy hpw hR1z
                      have hRy2 := hRy (lfDrop lf (.string y)) (lfDrop_same _ _) (fun _ h => lfDrop_other h)
                      have hnR : ba ≠ R1 := fun e => by have := HA.out.lt ba HA.out.oa; omega
                      have hMy : MapF wy Tryd.prog 9 ba S.names.length (mixF S b.posts lf) := HMX.out.kept hgy (fun e => hnR (Option.some.inj e))
                      obtain ⟨W11, hW11⟩ : ∃ W11, W11 = wy.alloc (.cells #[.int .i64 (Lg.sumB S.books y + Lg.sumP b.posts y), .bool cr] 61) := ⟨_, rfl⟩
                      have hb11 : Below wy.heap.size wy W11 := by rw [hW11]; exact (Below.refl _ wy).alloc (Nat.le_refl _) _
                      have hs11 : W11.heap[wy.heap.size]? = some (.cells #[.int .i64 (Lg.sumB S.books y + Lg.sumP b.posts y), .bool cr] 61 (0, 0)) := by rw [hW11]; exact alloc_new wy _
                      have hBY11 := hBY.step hb11
                      obtain ⟨W12, hput, hM12, hg12⟩ := (show MapF W11.drew Tryd.prog 9 ba S.names.length (mixF S b.posts lf) from hMy.below hb11.drew).put_there str_keyed Tryd.underlying52 (by have := HII.out.few; unfold maxLen; omega) (str_key (by unfold maxLen; omega)) hmi hms.1 hms.2
                      have hR12 : MapR W12 Tryd.prog 9 bt R1 b.posts.length (trialF S b.posts) (lfDrop lf (.string y)) cnt' := ((hRy2.kept (Below.grows hb11 none) (by simp) (by simp) : MapR W11 _ _ _ _ _ _ _ _).kept (show W11.grownBy W12 (some ba) from ⟨hg12.os, hg12.tape, hg12.output, hg12.size, hg12.block⟩) (fun e => HA.out.nat (Option.some.inj e).symm) (fun e => hnR (Option.some.inj e).symm))
                      have hB12 : BX (fun k => k = bt ∨ k = ba) w W12 p ba bi bt v b (.slice (some ⟨g2, o2, none⟩) b.posts.length cap) := hBY11.grown (show W11.grownBy W12 (some ba) from ⟨hg12.os, hg12.tape, hg12.output, hg12.size, hg12.block⟩) (.inr rfl) HA.out.npa (HA.out.lt ba HA.out.oa)
                      have H12 := hid (And.intro hR12 (And.intro hM12 hB12))
                      obtain ⟨q0, q1, q2, c0, c1, c2, c3, hq, hz2⟩ := hBY11.cells
                      have y0 : W11.cell? ⟨wy.heap.size, 0, none⟩ = some (.int .i64 (Lg.sumB S.books y + Lg.sumP b.posts y)) := by simp [World.cell?, hs11]
                      have y1 : W11.cell? ⟨wy.heap.size, 1, none⟩ = some (.bool cr) := by simp [World.cell?, hs11]
                      have y2 : wy.heap.size < W11.heap.size := (Array.getElem?_eq_some_iff.1 hs11).1
                      unfold accV at hen hput ⊢
                      have HY := hid hW11
                      rw [hsy] at y0 y1 y2
                      clear hms hmi hfy hyh hyc hys hBY hRy hRy2 hMy hb11 hs11 hBY11 hM12 hg12 hR12 hB12 hkl hly hgy
                      go_upto_region 32 with (fail)
                      rw [← hW11]
                      clear hW11
                      go_region
                      go_wp2_with fail
                      go_roundw
                      case rel => exact ⟨_, cnt', H12.out.1, H12.out.2.1, H12.out.2.2⟩
                      case measure => rw [H12.out.1.left_eq, hle]; omega
                · intro y c0 kl wy cnt' hkl hly hfy hRy hlt hgy hsy hen
                  obtain ⟨hyh, cr, hyc, rfl⟩ := trial_some hfy
                  unfold accV at hen ⊢
                  have hBY := HBX.out.far hgy hpw hR0
                  have HRy := hid (hRy (lfDrop lf (.string y)) (lfDrop_same _ _) (fun _ h => lfDrop_other h))
                  have HBA := hid (show ∀ z : Array Value, BW w (wy.alloc (.cells z 61)) p ba bi bt v b (.slice (some ⟨g2, o2, none⟩) b.posts.length cap) from fun z => hBY.step ((Below.refl _ wy).alloc (Nat.le_refl _) _))
                  have HRA := hid (show ∀ z : Array Value, MapR (wy.alloc (.cells z 61)) Tryd.prog 9 bt R0 b.posts.length (trialF S b.posts) (lfDrop lf (.string y)) cnt' from fun z => HRy.out.kept (World.grownBy_alloc wy _ none) (by simp) (by simp))
                  clear hRy hBY hgy hkl hly
                  have HFY := hid hfy
                  clear hfy
                  obtain ⟨nn, hnn⟩ : ∃ nn, nn = Lg.sumB S.books y + Lg.sumP b.posts y := ⟨_, rfl⟩
                  rw [← hnn] at hen ⊢
                  have HNN := hid hnn
                  clear hnn
                  by_cases hneg : nn < 0
                  · cases cr with
                    | false =>
                      have HE := hid (show Lg.code S b = 21 by rw [HC2.out, if_neg (by rw [HT0.out]; simp), if_pos (below_yes HND.out hyh hyc (by rw [← HNN.out]; exact hneg))])
                      clear hyc
                      go_wp2_with fail
                      go_ret
                      exact NO2.out _ _ (HBA.out _).tch ⟨_, _, (HRA.out _).mapF⟩ HE.out (by decide)
                    | true =>
                      have HYC := hid hyc
                      clear hyc
                      go_wp2_with fail
                      go_roundw
                      case rel =>
                        refine ⟨_, cnt', HRA.out _, fun s hs hh hl hbad => ?_, HBA.out _⟩
                        by_cases hsy' : s = y
                        · subst hsy'; rw [HYC.out] at hbad; cases hbad.1
                        · rw [lfDrop_other (fun e => hsy' (by simpa using e))] at hl
                          exact HLFs.out s hs hh hl hbad
                      case measure => rw [(HRA.out _).left_eq, hle]; omega
                  · have HNG := hid hneg
                    go_wp2_with fail
                    go_roundw
                    case rel =>
                      refine ⟨_, cnt', HRA.out _, fun s hs hh hl hbad => ?_, HBA.out _⟩
                      by_cases hsy' : s = y
                      · subst hsy'; rw [← HNN.out] at hbad; exact HNG.out hbad.2
                      · rw [lfDrop_other (fun e => hsy' (by simpa using e))] at hl
                        exact HLFs.out s hs hh hl hbad
                    case measure => rw [(HRA.out _).left_eq, hle]; omega
            · have HE := hid (show Lg.code S b = 21 by rw [HC2.out, if_pos ht0])
              have htb : (Lg.total b.posts != 0) = true := by simpa using ht0
              clear ht0
              go_wp2_with fail
              go_ret
              exact NO2.out _ _ HBR2.out.tch ⟨_, _, HMT.out⟩ HE.out (by decide)

end Go.Proofs.YtfkcphflcmpenaaDoor
