/-
  ledger.At. Conditions: lengths.
-/
import Derived.Test.YtfkcphflcmpenaaDoorZLed5
import Derived.Test.YtfkcphflcmpenaaDoorZMBase
import Derived.TacticsIn
import Derived.OrdersIn
namespace Lg

theorem balAt_stop {s : S} (hI : Inv s) (a : ByteArray) (t : Int) {k : Nat} (h : ∀ z ∈ s.books.drop k, t < z.at_) (hk : k = 0 ∨ ∃ z, s.books[k - 1]? = some z ∧ z.at_ ≤ t ∧ 0 < k) : sumB s.books a - sumB (s.books.drop k) a = sumAt s.books a t := by
  have e : after s.books t = s.books.drop k := by
    unfold after
    have h0 : ∀ z ∈ s.books.take k, ¬ t < z.at_ := by
      intro z hz
      rcases hk with rfl | ⟨y, hy, hyt, hk0⟩
      · simp at hz
      · obtain ⟨i, hi⟩ := List.getElem?_of_mem hz
        rw [List.getElem?_take] at hi
        split at hi
        · rename_i hlt
          obtain ⟨hk1, hk2⟩ := List.getElem?_eq_some_iff.1 hy
          obtain ⟨hi1, hi2⟩ := List.getElem?_eq_some_iff.1 hi
          by_cases hik : i = k - 1
          · subst hik; rw [hy] at hi; cases hi; omega
          · have := (List.pairwise_iff_getElem.1 hI.order) i (k - 1) hi1 hk1 (by omega)
            rw [hi2, hk2] at this
            omega
        · cases hi
    conv => lhs; rw [← List.take_append_drop k s.books]
    rw [List.filter_append, List.filter_eq_nil_iff.2 (fun z hz => by simpa using h0 z hz), List.filter_eq_self.2 (fun z hz => by simpa using h z hz), List.nil_append]
  have := sumB_split s.books a t
  rw [e] at this
  omega

end Lg
namespace Go.Proofs.YtfkcphflcmpenaaDoor
open Go.RowKit Go.Lib Go.Maps

attribute [local go_sem] Oper.semAt_some

/-- between two rounds: k bookings are still to come -/
structure AtI (S : Lg.S) (a : ByteArray) (t : Int) (W4 : World) (X : Nat) (k : Nat) (A : World) : Prop where
  c : A.heap[X]? = some (.cells #[.int .i64 (Lg.sumB S.books a - Lg.sumB (S.books.drop k) a)] 3 (0, 0))
  le : k ≤ S.books.length
  all : ∀ z ∈ S.books.drop k, t < z.at_
  tch : Tch (fun q => q = X) W4 A

/-- where a round leaves the loop -/
def AtX (S : Lg.S) (a : ByteArray) (t : Int) (W4 : World) (X : Nat) (id : Nat) (c : Code) (_k : Nat) (A : World) : Prop :=
  c = .exit id ∧ A.heap[X]? = some (.cells #[.int .i64 (Lg.sumAt S.books a t)] 3 (0, 0)) ∧ Tch (fun q => q = X) W4 A

theorem atI_stays (S : Lg.S) (a : ByteArray) (t : Int) (W4 : World) (X : Nat) (hX : X < W4.heap.size) : Stays W4.heap.size none (AtI S a t W4 X) := by
  rintro k A A' row ⟨h1, h2, h3, h4⟩ hg hr
  have hr' : ∀ r, row = some r → W4.heap.size ≤ r := fun r e => (hr r e).elim (fun h => by cases h) (fun h => h.1)
  exact ⟨(hg.block X (Array.getElem?_eq_some_iff.1 h1).1 (fun e => by have := hr' X e.symm; omega)).trans h1, h2, h3, h4.grown hg (fun r e => .inr (hr' r e))⟩
theorem atX_stays (S : Lg.S) (a : ByteArray) (t : Int) (W4 : World) (X id : Nat) (hX : X < W4.heap.size) (c : Code) : Stays W4.heap.size none (AtX S a t W4 X id c) := by
  rintro k A A' row ⟨h0, h1, h4⟩ hg hr
  have hr' : ∀ r, row = some r → W4.heap.size ≤ r := fun r e => (hr r e).elim (fun h => by cases h) (fun h => h.1)
  exact ⟨h0, (hg.block X (Array.getElem?_eq_some_iff.1 h1).1 (fun e => by have := hr' X e.symm; omega)).trans h1, h4.grown hg (fun r e => .inr (hr' r e))⟩

theorem below_rec {B : Nat} {w W : World} {D : Nat} {o : Obj} (o' : Obj) (h : Below B w W) (hD : B ≤ D) (hK : W.heap[D]? = some o) : Below B w (W.putObj D o') :=
  h.grown (grownBy_putObj' W D o') (by have := (Array.getElem?_eq_some_iff.1 hK).1; omega) (fun r e => by cases e; exact hD)

theorem sumP_take {l : List (ByteArray × Int)} {k : Nat} {p : ByteArray × Int} (hp : l[k]? = some p) (a : ByteArray) : Lg.sumP (l.take (k + 1)) a = Lg.sumP (l.take k) a + if p.1 = a then p.2 else 0 := by
  obtain ⟨hk, hx⟩ := List.getElem?_eq_some_iff.1 hp
  rw [List.take_succ_eq_append_getElem hk, hx, Lg.sumP_append]
  simp [Lg.sumP]

theorem bodyM_ret {F : Fence} {n : Nat} {P : Program} {fn : Func} {R : Ending → World → Prop} {tmps : Array Value} {w : World} {v : Value} (hr : (results fn tmps).run P w = .ok v w) (hR : R (.returned v) w) :
    bodyPostM F n P fn R .ret { tmps := tmps, defers := [] } w := ⟨v, hr, hR⟩
theorem cell_blk {w : World} {B : Nat} {v : Value} {t : TypeId} (h : w.heap[B]? = some (.cells #[v] t (0, 0))) : w.cell? ⟨B, 0, none⟩ = some v ∧ w.frozen? ⟨B, 0, none⟩ = false := by
  constructor
  · simp [World.cell?, h]
  · simp [World.frozen?, h]
theorem set_blk {w : World} {B : Nat} {v u : Value} {t : TypeId} (h : w.heap[B]? = some (.cells #[v] t (0, 0))) : (w.setCell ⟨B, 0, none⟩ u).heap[B]? = some (.cells #[u] t (0, 0)) := by
  simp [World.setCell, Array.getElem?_modify, h]

/-- other blocks than X: loops' records, rows -/
theorem Tch.keeps {X B : Nat} {W W' : World} (h : Tch (fun q => q = X) W W') (hX : X < B) : KeepsFrom B W W' :=
  ⟨h.size, fun q o hq ho _ => (h.block q (Array.getElem?_eq_some_iff.1 ho).1 (fun e => by omega)).trans ho⟩
theorem Tch.back {X : Nat} {W W' : World} (h : Tch (fun q => q = X) W W') : BackKeep X W W' :=
  ⟨h.size, fun q _o hq ho _ => (h.block q (Array.getElem?_eq_some_iff.1 ho).1 hq).trans ho⟩

set_option maxRecDepth 100000 in
set_option maxHeartbeats 8000000 in
theorem ledAt_any (w : World) (p : Nat) (S : Lg.S) (O : Nat → Prop) (a : ByteArray) (t : Int) (h : Led w p S O) (ha : a.size ≤ maxLen) :
    Calls Tryd.prog 19 #[.pointer (some ⟨p, 0, none⟩), .string a, .int .i64 t] w (Gives (.tuple #[.int .i64 (Lg.balAt S a t), .int .i64 (Lg.errOf S a)]) w) := by
  have HL := hid h
  have HII := hid h.inv
  obtain ⟨ba, bi, bt, v, bs, hA⟩ := h
  have HA := hid hA
  have hz := hA.lt p hA.op
  clear hA
  obtain ⟨W1, hW1⟩ : ∃ W1, W1 = (w.alloc (.cells #[.string a] 9)).alloc (.cells #[.int .i64 t] 3) := ⟨_, rfl⟩
  have hb1 : Below w.heap.size w W1 := by rw [hW1]; exact ((Below.refl _ w).alloc (Nat.le_refl _) _).alloc (by simp) _
  have hs1 : W1.heap[w.heap.size]? = some (.cells #[.string a] 9 (0, 0)) := by
    rw [hW1]; exact (Below.heap_alloc _ _ _ (by simp)).trans (alloc_new w _)
  have hs2 : W1.heap[w.heap.size + 1]? = some (.cells #[.int .i64 t] 3 (0, 0)) := by
    rw [hW1]
    have := alloc_new (w.alloc (.cells #[.string a] 9)) (.cells #[.int .i64 t] 3)
    rwa [World.size_alloc] at this
  have HBA := hid (balance_any W1 p S O a (HL.out.below hb1) ha)
  have H1 := hid (And.intro hb1 (And.intro hs1 hs2))
  have HAA := hid ha
  clear hb1 hs1 hs2 ha
  refine (callsIn_wide (n := 9)).1 ?_
  refine callsIn_of_wp_marks Tryd.func19 rfl trivial ?_ rfl
  simp only [Tryd.ntmps19, List.size_toArray, List.length_cons, List.length_nil, Nat.reduceAdd, Nat.reduceSub, Array.replicate_succ, Array.replicate_zero, List.push_toArray, List.append_toArray, List.nil_append, List.cons_append]
  refine wpIn_wide.2 ?_
  go_wp2_with fail
  rw [← hW1]
  clear hW1
  refine (HBA.out).mono ?_
  rintro e W2 ⟨rfl, hb2⟩
  have hB2 := Below.step H1.out.1 hb2
  have hz2 : p < W2.heap.size := Nat.lt_of_lt_of_le hz hB2.size
  have hw2 : w.heap.size + 1 < W2.heap.size := Nat.lt_of_lt_of_le (Array.getElem?_eq_some_iff.1 H1.out.2.2).1 hb2.size
  obtain ⟨X, hX⟩ : ∃ X, X = W2.heap.size := ⟨_, rfl⟩
  have HX := hid hX
  cases hc : Lg.credit S a with
  | none =>
    have HF := hid (show Lg.bal S a = 0 ∧ Lg.balAt S a t = 0 ∧ Lg.errOf S a = 11 by unfold Lg.bal Lg.balAt Lg.errOf; rw [hc]; exact ⟨rfl, rfl, rfl⟩)
    rw [HF.out.1, HF.out.2.2]
    have HW := hid (show Below w.heap.size w (W2.alloc (.cells #[.int .i64 0] 3)) from hB2.trans (((Below.refl _ W2).alloc (Nat.le_refl _) _).mono hB2.size))
    clear hX hc hB2 hb2
    go_wp2_with fail
    refine (bodyM_ret (results_tmp2 rfl _ _ _) ?_)
    exact ⟨by rw [HF.out.2.1, HF.out.2.2]; rfl, HW.out⟩
  | some cr =>
    have HF := hid (show Lg.bal S a = Lg.sumB S.books a ∧ Lg.balAt S a t = Lg.sumAt S.books a t ∧ Lg.errOf S a = 0 by unfold Lg.bal Lg.balAt Lg.errOf; rw [hc]; exact ⟨rfl, rfl, rfl⟩)
    rw [HF.out.1, HF.out.2.2]
    obtain ⟨va, vc, hvv⟩ := ownsRow_slice HA.out.row
    have HV := hid hvv
    obtain ⟨W3, hW3⟩ : ∃ W3, W3 = W2.alloc (.cells #[.int .i64 (Lg.sumB S.books a)] 3) := ⟨_, rfl⟩
    have hb3 : Below W2.heap.size W2 W3 := by rw [hW3]; exact (Below.refl _ W2).alloc (Nat.le_refl _) _
    have hx3 : W3.heap[X]? = some (.cells #[.int .i64 (Lg.sumB S.books a)] 3 (0, 0)) := by rw [hW3, hX]; exact alloc_new W2 _
    obtain ⟨W4, hW4⟩ : ∃ W4, W4 = W3.alloc (.cells #[.slice va bs.length vc] 24) := ⟨_, rfl⟩
    have hb4 : Below W3.heap.size W3 W4 := by rw [hW4]; exact (Below.refl _ W3).alloc (Nat.le_refl _) _
    have hy4 : W4.heap[W3.heap.size]? = some (.cells #[.slice va bs.length vc] 24 (0, 0)) := by rw [hW4]; exact alloc_new W3 _
    have hxz : X < W3.heap.size := (Array.getElem?_eq_some_iff.1 hx3).1
    have hx4 : W4.heap[X]? = some (.cells #[.int .i64 (Lg.sumB S.books a)] 3 (0, 0)) := (hb4.block X hxz).trans hx3
    have hp2 := (hB2.block p hz).trans HA.out.hp
    rw [hvv] at hp2
    have c1 : W2.cell? ⟨p, 1, none⟩ = some (.slice va bs.length vc) := by simp [World.cell?, hp2]
    have hz20 : ¬ p = W2.heap.size := by omega
    have H2 := hid (show W2.heap[w.heap.size]? = some (.cells #[.string a] 9 (0, 0)) ∧ W2.heap[w.heap.size + 1]? = some (.cells #[.int .i64 t] 3 (0, 0)) from
      ⟨(hb2.block _ (by have := (Array.getElem?_eq_some_iff.1 H1.out.2.2).1; omega)).trans H1.out.2.1, (hb2.block _ (Array.getElem?_eq_some_iff.1 H1.out.2.2).1).trans H1.out.2.2⟩)
    have HMK := hid (back_mk va bs.length vc W3)
    have H34 := hid (And.intro hb3 (And.intro hb4 (And.intro hy4 hx4)))
    have HB2 := hid hB2
    have HW4 := hid hW4
    have hX4 : X < W4.heap.size := Nat.lt_of_lt_of_le hxz hb4.size
    have hwX : w.heap.size + 1 < X := by rw [hX]; exact hw2
    have hX3 : X ≠ W3.heap.size := by omega
    have h34z : W3.heap.size < W4.heap.size := (Array.getElem?_eq_some_iff.1 hy4).1
    clear hc hvv hb3 hx3 hb4 hy4 hx4 hp2 hb2 hW4 hB2 hX
    go_wp2_with fail
    rw [← hW3]
    clear hW3
    refine (HMK.out).mono ?_
    rintro e w4' ⟨rfl, hw4'⟩
    rw [← HW4.out] at hw4'
    subst hw4'
    go_wp2_with fail
    rw [← HX.out]
    have hbl : bs.length = S.books.length := by rw [← HA.out.books, List.length_map]
    have hfew := HII.out.fewB
    have HBL := hid hbl
    clear hbl
    refine (wpIn_wide (n := 9)).1 (wp_iter (own := none) rfl (by omega) (gf := 42) (lb := #[.pointer (some ⟨W3.heap.size, 0, none⟩)]) rfl trivial (enters_of Tryd.func42 (by kernel_rfl) rfl)
      (back_iter bs (.slice va bs.length vc) W3.heap.size X (fun q hq => by
        obtain ⟨qa, qc, e⟩ := (HA.out.posts q hq).slice
        exact ⟨qa, _, qc, e⟩) 8 (by omega)) bs.length (fun r e => by cases e)
      (fun A hA => ?st) (fun b vals b' h => ?ps) (fun h1 h2 => h1.trans h2) (fun A l o o' _ hl ho => backKeep_record X A l o o' hl ho)
      (AtI S a t w4' X) (AtX S a t w4' X 0) ?hI ?hIx ?h0 ?hround ?hdone ?hstop)
    case st =>
      have hA4 : Below w.heap.size w A := HB2.out.trans ((Below.step (Below.step H34.out.1 H34.out.2.1) hA).mono HB2.out.size)
      have hrow := SlIn.own HA.out.row (fun x _ => rfl)
      rw [HV.out] at hrow
      refine ⟨rfl, (hA.block _ h34z).trans H34.out.2.2.1, (hrow.below hA4).mono (fun k hk _ => ?_), fun e => hX3 e.symm, by have := HBL.out; omega⟩
      have hlt := HA.out.lt k (HA.out.ov k (by rw [HV.out]; exact hk)).1
      omega
    case ps =>
      cases b with
      | zero => cases h
      | succ m =>
        have h' : bs[m]?.map (fun q => (#[Value.int .i64 m, bookV q], m)) = some (vals, b') := h
        cases hq : bs[m]? with
        | none => rw [hq] at h'; cases h'
        | some q => rw [hq] at h'; cases h'; rfl
    case hI => exact atI_stays S a t _ X hX4
    case hIx => intro c; exact atX_stays S a t _ X 0 hX4 c
    case h0 =>
      refine ⟨?_, by rw [HBL.out]; exact Nat.le_refl _, ?_, Tch.refl _ _⟩
      · have := H34.out.2.2.2
        rw [HBL.out, List.drop_length]
        simpa [Lg.sumB] using this
      · rw [HBL.out, List.drop_length]; simp
    case hdone =>
      intro D b A hD hnx hi hK
      have hb0 : b = 0 := by
        cases b with
        | zero => rfl
        | succ m =>
          exfalso
          have h' : bs[m]?.map (fun q => (#[Value.int .i64 m, bookV q], m)) = none := hnx
          have hm : m < bs.length := by have := hi.le; have := HBL.out; omega
          rw [List.getElem?_eq_getElem hm] at h'
          cases h'
      subst hb0
      have hv := hi.c
      rw [Lg.balAt_stop HII.out a t hi.all (.inl rfl)] at hv
      obtain ⟨y0, _⟩ := cell_blk hv
      have HAA2 := hid (And.intro hi.tch hK)
      clear hnx hi hv
      go_wp2
      refine ⟨by simp, .inl ⟨_, _, rfl, run_takeDeferred HAA2.out.2, _, results_tmp2 rfl _ _ _, ?_⟩⟩
      refine ⟨by rw [HF.out.2.1, HF.out.2.2]; rfl, ?_⟩
      have hw4 : Below w.heap.size w A := (HB2.out.trans ((Below.step H34.out.1 H34.out.2.1).mono HB2.out.size)).trans (HAA2.out.1.below (by have := H34.out.1.size; have := H34.out.2.1.size; omega) (fun k e => by omega))
      exact below_rec _ hw4 (by have := H34.out.1.size; have := H34.out.2.1.size; omega) HAA2.out.2
    case hstop =>
      intro D c b A hD hx hK
      obtain ⟨rfl, hv, htch⟩ := hx
      refine wpIn_wide.2 ?_
      obtain ⟨y0, _⟩ := cell_blk hv
      have HAA2 := hid (And.intro htch hK)
      clear hv
      go_wp2
      refine ⟨by simp, .inl ⟨_, _, rfl, run_takeDeferred HAA2.out.2, _, results_tmp2 rfl _ _ _, ?_⟩⟩
      refine ⟨by rw [HF.out.2.1, HF.out.2.2]; rfl, ?_⟩
      have hw4 : Below w.heap.size w A := (HB2.out.trans ((Below.step H34.out.1 H34.out.2.1).mono HB2.out.size)).trans (HAA2.out.1.below (by have := H34.out.1.size; have := H34.out.2.1.size; omega) (fun k e => by omega))
      exact below_rec _ hw4 (by have := H34.out.1.size; have := H34.out.2.1.size; omega) HAA2.out.2
    case hround =>
      intro l b vals b' A hl hlo hnx hi
      obtain ⟨m, hbm⟩ : ∃ m, b = m + 1 := by
        cases b with
        | zero => cases hnx
        | succ m => exact ⟨m, rfl⟩
      subst hbm
      have h' : bs[m]?.map (fun q => (#[Value.int .i64 m, bookV q], m)) = some (vals, b') := hnx
      have hm : m < bs.length := by have := hi.le; have := HBL.out; omega
      obtain ⟨q, hq⟩ : ∃ q, bs[m]? = some q := ⟨_, List.getElem?_eq_getElem hm⟩
      rw [hq] at h'
      simp only [Option.map_some, Option.some.injEq, Prod.mk.injEq] at h'
      obtain ⟨hv1, hv2⟩ := h'
      subst hv1
      subst hv2
      have hqm := List.mem_of_getElem? hq
      have hqb : S.books[m]? = some q.1 := by rw [← HA.out.books, List.getElem?_map, hq]; rfl
      obtain ⟨qa, qc, hqv⟩ := (HA.out.posts q hqm).slice
      have HQ := hid (And.intro hqm (And.intro hqb hqv))
      have HI := hid hi
      have HLO := hid hlo
      unfold bookV
      rw [hqv]
      clear hnx hi hlo hq hqm hqb hqv
      gi_wp2_with fail
      obtain ⟨A2, hA2⟩ : ∃ A2, A2 = A.alloc (.cells #[.string q.1.id, .int .i64 q.1.at_, .slice qa q.1.posts.length qc] 36) := ⟨_, rfl⟩
      rw [← hA2]
      have hbA : Below A.heap.size A A2 := by rw [hA2]; exact (Below.refl _ A).alloc (Nat.le_refl _) _
      have hqA : A2.heap[A.heap.size]? = some (.cells #[.string q.1.id, .int .i64 q.1.at_, .slice qa q.1.posts.length qc] 36 (0, 0)) := by rw [hA2]; exact alloc_new A _
      clear hA2
      have htA := Tch.of_below hbA (fun q => q = X)
      refine ⟨htA.keeps hX4, htA.back, fun A3 hg3 => ?_⟩
      obtain ⟨ol, hol, hoc⟩ := HLO.out
      have hol2 := (hbA.block l (Array.getElem?_eq_some_iff.1 hol).1).trans hol
      have hi2 := atI_stays S a t _ X hX4 (m + 1) A A2 none HI.out (Below.grows hbA none) (fun r e => by cases e)
      have hi3 := atI_stays S a t _ X hX4 (m + 1) A2 A3 (some l) hi2 hg3 (fun r e => by cases e; exact .inr ⟨by omega, _, hol2, hoc⟩)
      have hbut : But A2.heap.size l A2 A3 := But.of_grown hg3 (fun r e => by cases e; rfl)
      have hq3 := hbut.cells hol2 hoc hqA rfl
      have t34 : Tch (fun q => q = X) w A3 := ((Tch.of_below (HB2.out.trans ((Below.step H34.out.1 H34.out.2.1).mono HB2.out.size)) (fun q => q = X))).trans hi3.tch (fun k e hk => e)
      have hzA3 := (Array.getElem?_eq_some_iff.1 hq3).1
      have hBz : W3.heap.size < A3.heap.size := Nat.lt_of_lt_of_le h34z hi3.tch.size
      have b4 : ∀ k, k < W2.heap.size → A3.heap[k]? = W2.heap[k]? := fun k hk => (hi3.tch.block k (by have := H34.out.1.size; have := H34.out.2.1.size; omega) (fun e => by have := HX.out; omega)).trans ((Below.step H34.out.1 H34.out.2.1).block k hk)
      have s1 := cell_blk ((b4 _ (by omega)).trans H2.out.1)
      have s2 := cell_blk ((b4 _ (by omega)).trans H2.out.2)
      have y0 := cell_blk hi3.c
      obtain ⟨s1, -⟩ := s1
      obtain ⟨s2, -⟩ := s2
      obtain ⟨y0, -⟩ := y0
      have hX3z : X < A3.heap.size := (Array.getElem?_eq_some_iff.1 hi3.c).1
      have e0 : A3.cell? ⟨A.heap.size, 0, none⟩ = some (.string q.1.id) := by simp [World.cell?, hq3]
      have e1 : A3.cell? ⟨A.heap.size, 1, none⟩ = some (.int .i64 q.1.at_) := by simp [World.cell?, hq3]
      have e2 : A3.cell? ⟨A.heap.size, 2, none⟩ = some (.slice qa q.1.posts.length qc) := by simp [World.cell?, hq3]
      have hAz : X < A.heap.size := by have := HI.out.tch.size; omega
      have HPO : Hid (∀ A', Tch (fun q => q = X) A3 A' → SlIn A' (.slice qa q.1.posts.length qc) (fun k => k ≠ X) 2 postC q.1.posts) := by
        intro A' hA'
        have h1 := (HA.out.posts q HQ.out.1).tch (t34.trans hA' (fun k e _ => e)) (fun k hk e => by have := HA.out.lt k hk.1; omega)
        rw [HQ.out.2.2] at h1
        exact h1.mono (fun k hk _ => by have := HA.out.lt k hk.1; omega)
      have HI3 := hid hi3
      have HQ3 := hid hq3
      have hfm := HII.out.formed q.1 (List.mem_of_getElem? HQ.out.2.1)
      have hpl := (Lg.formed_len hfm).2
      have hun := Lg.formed_units hfm
      have hbo1 := Lg.sumB_bound (fun z hz => Lg.formed_units (HII.out.formed z hz)) a
      have hbo2 := Lg.sumB_bound (l := S.books.drop (m + 1)) (fun z hz => Lg.formed_units (HII.out.formed z (List.mem_of_mem_drop hz))) a
      have hdl : (S.books.drop (m + 1)).length ≤ 2000 := by rw [List.length_drop]; omega
      have HUN := hid hun
      have HBO := hid (And.intro hbo1 (And.intro hbo2 hdl))
      clear hbA hqA htA hol2 hi2 hi3 hbut hq3 t34 b4 hg3 hfm hun hbo1 hbo2 hdl
      by_cases hat : q.1.at_ ≤ t
      · have HAT := hid hat
        gi_wp2_with fail
        refine ⟨KeepsFrom.refl _ _, rfl, ?_, HI3.out.tch⟩
        have := HI3.out.c
        rw [Lg.balAt_stop HII.out a t HI3.out.all (.inr ⟨q.1, HQ.out.2.1, HAT.out, by omega⟩)] at this
        exact this
      · have HAT := hid hat
        gi_wp2_with fail
        gi_loopw [37] (fun i wr => ∃ j : Nat, j ≤ q.1.posts.length ∧ i = .int .i64 j ∧ Hid (wr.heap[X]? = some (.cells #[.int .i64 (Lg.sumB S.books a - Lg.sumB (S.books.drop (m + 1)) a - Lg.sumP (q.1.posts.take j) a)] 3 (0, 0))) ∧ Hid (Tch (fun q => q = X) A3 wr)) (fun i _ => q.1.posts.length - (RowKit.intOf i).toNat)
        case atStart =>
          refine ⟨0, Nat.zero_le _, rfl, ?_, Tch.refl _ _⟩
          have := HI3.out.c
          simpa [Lg.sumP, Hid] using this
        case round =>
          obtain ⟨j, hj, rfl, HC, HT⟩ := hrel
          by_cases hlt : j < q.1.posts.length
          · obtain ⟨x, hx⟩ : ∃ x, q.1.posts[j]? = some x := ⟨_, List.getElem?_eq_getElem hlt⟩
            obtain ⟨a', cap', e', _, _, h4⟩ := HPO.out wr HT.out
            cases e'
            obtain ⟨g, o, rfl, hgX, hr⟩ := h4 (by omega)
            have hc := hr.2 j x hx
            have d0 := hc 0 _ rfl
            have d1 := hc 1 _ rfl
            rw [Nat.add_zero] at d0
            have hg := hr.1
            have hn0 : (0 : Int) ≤ (j : Int) := by omega
            have hn1 : (j : Int) < (q.1.posts.length : Int) := by omega
            have hwz : w.heap.size < A3.heap.size := by omega
            have r1 : wr.cell? ⟨w.heap.size, 0, none⟩ = some (.string a) := (World.cell?_of_block (a := ⟨w.heap.size, 0, none⟩) (HT.out.block _ hwz (fun e : w.heap.size = X => by omega))).trans s1
            obtain ⟨cur, hcur⟩ : ∃ cur, cur = Lg.sumB S.books a - Lg.sumB (S.books.drop (m + 1)) a - Lg.sumP (q.1.posts.take j) a := ⟨_, rfl⟩
            rw [← hcur] at HC
            obtain ⟨y1, y2⟩ := cell_blk HC.out
            have hXw : X < wr.heap.size := (Array.getElem?_eq_some_iff.1 HC.out).1
            have hXn : ¬ X = wr.heap.size := by omega
            have hww : w.heap.size < wr.heap.size := by omega
            have hstep := sumP_take hx a
            have hpb := Lg.sumP_bound (l := q.1.posts.take j) (fun z hz => HUN.out.2 z (List.mem_of_mem_take hz)) a
            have htl : (q.1.posts.take j).length ≤ 12 := by rw [List.length_take]; omega
            have hxu := HUN.out.2 x (List.mem_of_getElem? hx)
            have hwr : IntKind.i64.wrap (cur - x.2) = cur - x.2 := IntWalk.i64_in _ (by
              obtain ⟨h1, h2, h3⟩ := HBO.out
              omega)
            have hlb := list_beq x.1 a
            have HAL := hid (show ∀ z : Array Value, Tch (fun q => q = X) A3 (wr.alloc (.cells z 47)) from fun z => HT.out.alloc _)
            have HHX := hid (show ∀ z : Array Value, (wr.alloc (.cells z 47)).heap[X]? = some (.cells #[.int .i64 cur] 3 (0, 0)) from fun z => (Below.heap_alloc _ _ _ hXw).trans HC.out)
            have HS := hid (And.intro hcur hstep)
            clear hc hr hx h4 hstep hpb htl hxu hcur s1 y0
            by_cases hxa : x.1 = a
            · rw [decide_eq_true hxa] at hlb
              have HXA := hid hxa
              clear hxa
              gi_wp2_with fail
              go_roundw
              case rel =>
                refine ⟨j + 1, by omega, by go_num, ?_, (HT.out.setCell (a := ⟨X, 0, none⟩) (.inl rfl) _).alloc _⟩
                obtain ⟨h2, h3⟩ := HS.out
                rw [h3, if_pos HXA.out]
                rw [show Lg.sumB S.books a - Lg.sumB (S.books.drop (m + 1)) a - (Lg.sumP (q.1.posts.take j) a + x.2) = cur - x.2 by omega]
                exact (Below.heap_alloc _ _ _ (by simp [World.setCell]; exact hXw)).trans (set_blk (u := .int .i64 (cur - x.2)) HC.out)
              case measure => simp [RowKit.intOf]; omega
            · rw [decide_eq_false hxa] at hlb
              have HXA := hid hxa
              clear hxa
              gi_wp2_with fail
              go_roundw
              case rel =>
                refine ⟨j + 1, by omega, by go_num, ?_, HAL.out _⟩
                obtain ⟨h2, h3⟩ := HS.out
                rw [h3, if_neg HXA.out, Int.add_zero, ← h2]
                exact HHX.out _
              case measure => simp [RowKit.intOf]; omega
          · have hje : j = q.1.posts.length := by omega
            subst hje
            gi_wp2_with fail
            refine ⟨HT.out.keeps hX4, HT.out.back, ?_, ?_, ?_, HI3.out.tch.trans HT.out (fun k e _ => e)⟩
            · have := HC.out
              rw [List.take_length] at this
              rw [this]
              have e : S.books.drop m = q.1 :: S.books.drop (m + 1) := by
                obtain ⟨h1, h2⟩ := List.getElem?_eq_some_iff.1 HQ.out.2.1
                rw [List.drop_eq_getElem_cons h1, h2]
              rw [e]
              simp only [Lg.sumB]
              rw [show Lg.sumB S.books a - Lg.sumB (S.books.drop (m + 1)) a - Lg.sumP q.1.posts a = Lg.sumB S.books a - (Lg.sumP q.1.posts a + Lg.sumB (S.books.drop (m + 1)) a) by omega]
            · have := HI3.out.le; omega
            · have e : S.books.drop m = q.1 :: S.books.drop (m + 1) := by
                obtain ⟨h1, h2⟩ := List.getElem?_eq_some_iff.1 HQ.out.2.1
                rw [List.drop_eq_getElem_cons h1, h2]
              intro z hz'
              rw [e] at hz'
              rcases List.mem_cons.1 hz' with rfl | hz'
              · have := HAT.out; omega
              · exact HI3.out.all z hz'

end Go.Proofs.YtfkcphflcmpenaaDoor
