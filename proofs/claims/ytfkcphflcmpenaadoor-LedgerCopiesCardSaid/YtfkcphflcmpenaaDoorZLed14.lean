/-
  ledger.List once more: what it hands back may be written to; and what such writing leaves. Conditions: none.
-/
import Derived.Test.YtfkcphflcmpenaaDoorZLed13
namespace Go.Proofs.YtfkcphflcmpenaaDoor
open Go.RowKit Go.Maps

/-- postings in a block of their own, from block B on, free to be written -/
def OwnP (B : Nat) (row : Value) (w : World) (q : Lg.Bk × Value) : Prop :=
  ∃ g cap ci, q.2 = .slice (some ⟨g, 0, none⟩) q.1.posts.length cap ∧ B ≤ g ∧ row.ownBlock ≠ some g ∧ w.heap[g]? = some (.cells ci 47 (0, 0)) ∧ 2 * q.1.posts.length ≤ ci.size

theorem OwnP.tch {B : Nat} {row : Value} {w w' : World} {q : Lg.Bk × Value} {O : Nat → Prop} (h : OwnP B row w q) (ht : Tch O w w') (ho : ∀ k, row.ownBlock ≠ some k → ¬ O k) : OwnP B row w' q := by
  obtain ⟨g, cap, ci, h1, h2, h3, h4, h5⟩ := h
  exact ⟨g, cap, ci, h1, h2, h3, (ht.block g (Array.getElem?_eq_some_iff.1 h4).1 (ho g h3)).trans h4, h5⟩

theorem OwnP.own {B : Nat} {row : Value} {w w' : World} {x : Lg.Bk} {v : Value} (h : w'.ownsRow w.heap.size 47 2 v x.posts.length (x.posts.flatMap postC)) (h0 : 0 < x.posts.length) (hB : B ≤ w.heap.size) (hr : ∀ g, row.ownBlock = some g → g < w.heap.size) : OwnP B row w' (x, v) := by
  rcases h.2 with ⟨_, h1⟩ | ⟨g, cap, cur, rfl, hg, hh, hn, _, hs, _⟩
  · omega
  · exact ⟨g, cap, cur, rfl, by omega, fun e => by have := hr g e; omega, hh, by simp only; omega⟩

/-- what List ends in, besides: rows that may be written -/
def ListOwn (l : List Lg.Bk) (w : World) (e : Ending) (w' : World) : Prop :=
  ∃ (v : Value) (bs : List (Lg.Bk × Value)), e = .returned v ∧ bs.map Prod.fst = l ∧ w'.ownsRow w.heap.size 36 3 v bs.length (bs.flatMap bookC) ∧ (∀ q ∈ bs, OwnP w.heap.size v w' q) ∧ Below w.heap.size w w'

set_option maxRecDepth 100000 in
set_option maxHeartbeats 4000000 in
theorem list_own (w : World) (p : Nat) (S : Lg.S) (O : Nat → Prop) (h : Led w p S O) : Calls Tryd.prog 22 #[.pointer (some ⟨p, 0, none⟩)] w (ListOwn S.books w) := by
  obtain ⟨ba, bi, bt, v, bs, hA⟩ := h
  have HA := hid hA
  have hz := hA.lt p hA.op
  have hnb : bs.length ≤ 2000 := by have := hA.inv.fewB; rw [← hA.books, List.length_map] at this; exact this
  have HPF := hid (show ∀ q ∈ bs, 2 ≤ q.1.posts.length ∧ q.1.posts.length ≤ 12 from fun q hq => Lg.formed_len (hA.inv.formed q.1 (by rw [← hA.books]; exact List.mem_map_of_mem hq)))
  have hvv := SlIn.own hA.row (fun x _ => rfl)
  obtain ⟨va, vc, hve⟩ := hvv.slice
  have c1 : w.cell? ⟨p, 1, none⟩ = some v := by simp [World.cell?, hA.hp]
  rw [hve] at c1
  have hone : ∀ q ∈ bs, q.2.oneCell' = true := fun q hq => by
    obtain ⟨a, c, e⟩ := (hA.posts q hq).slice
    rw [e]; rfl
  have HC : Hid (Calls Tryd.prog 36 #[.slice va bs.length vc] w (CloneB bs w)) := by
    by_cases h0 : bs = []
    · subst h0
      rw [← hve]
      rcases hA.row.2 with ⟨h1, _⟩ | ⟨g, cap, cur, h1, _⟩
      · rw [h1]; exact clone_nil w
      · rw [h1]; exact clone_empty _ _ w
    · rw [← hve]
      exact clone_books bs v w hvv.slOf (List.length_pos_iff.2 h0) (by omega) hone
  clear hA hvv hone
  have HE := hid hve
  clear hve
  go_enter Tryd.func22, Tryd.ntmps22
  go_wp2_with fail
  refine (HC.out).mono ?_
  rintro e w1 ⟨out, rfl, ho1, hb1⟩
  have HW := hid hb1
  have HR := hid ho1
  obtain ⟨oa, oc, hoe⟩ := ownsRow_slice ho1
  subst hoe
  have hps : ∀ q ∈ bs, SlIn w1 q.2 (fun k => k < w.heap.size) 2 postC q.1.posts := fun q hq => ((HA.out.posts q hq).below hb1).mono (fun k hk _ => HA.out.lt k hk.1)
  have HPS := hid hps
  clear ho1 hb1 hps HC
  go_wp2_with fail
  go_loopw [14] (fun i wr => ∃ (k : Nat) (bs' : List (Lg.Bk × Value)), k ≤ bs.length ∧ i = .int .i64 k ∧ Hid (bs'.map Prod.fst = bs.map Prod.fst ∧ wr.ownsRow w.heap.size 36 3 (.slice oa bs.length oc) bs.length (bs'.flatMap bookC) ∧ (∀ i q, bs'[i]? = some q → i < k → OwnP w.heap.size (.slice oa bs.length oc) wr q) ∧
    (∀ i q, bs'[i]? = some q → k ≤ i → SlIn wr q.2 (fun k => k < w.heap.size) 2 postC q.1.posts) ∧ Below w.heap.size w wr)) (fun i _ => bs.length - (RowKit.intOf i).toNat)
  case atStart => exact ⟨0, bs, Nat.zero_le _, rfl, rfl, HR.out, fun i q _ h => by omega, fun i q hq _ => HPS.out q (List.mem_of_getElem? hq), HW.out⟩
  case round =>
    obtain ⟨k, bs', hk, rfl, HK⟩ := hrel
    have hbl : bs'.length = bs.length := by have := congrArg List.length HK.out.1; simpa using this
    have HBL := hid hbl
    by_cases hlt : k < bs.length
    · obtain ⟨q, hq⟩ : ∃ q, bs'[k]? = some q := ⟨_, List.getElem?_eq_getElem (by omega)⟩
      have hql : 2 ≤ q.1.posts.length ∧ q.1.posts.length ≤ 12 := by
        have h1 : (bs'.map Prod.fst)[k]? = some q.1 := by rw [List.getElem?_map, hq]; rfl
        rw [HK.out.1, List.getElem?_map] at h1
        cases h2 : bs[k]? with
        | none => rw [h2] at h1; cases h1
        | some q' =>
          rw [h2] at h1
          simp at h1
          have := HPF.out q' (List.mem_of_getElem? h2)
          rw [h1] at this
          exact this
      have hsl := HK.out.2.2.2.1 k q hq (Nat.le_refl _)
      obtain ⟨qa, qc, hqv⟩ := hsl.slice
      have hrow := HK.out.2.1
      rw [← hbl] at hrow
      obtain ⟨a', cap', ea, _, _, h4⟩ := SlIn.own hrow (fun x _ => rfl)
      rw [hbl] at ea h4
      cases ea
      obtain ⟨g, o, rfl, hgo, hr⟩ := h4 (by omega)
      have ho0 : o = 0 := by
        rcases hrow.2 with ⟨h1, _⟩ | ⟨g', cap, cur, h1, _⟩
        · cases h1
        · cases h1; rfl
      subst ho0
      have e2 := hr.2 k q hq 2 _ rfl
      rw [hqv, Nat.zero_add] at e2
      have hg := hr.1
      have hk0 : (0 : Int) ≤ (k : Int) := by omega
      have hk1 : (k : Int) < (bs.length : Int) := by omega
      have hgw : w.heap.size ≤ g := (HK.out.2.1.lt g rfl).1
      have HCP := hid (clone_posts q.1.posts q.2 wr hsl.slOf (by omega) (by omega))
      rw [hqv] at HCP
      have HQ := hid (And.intro hq hqv)
      clear hq hsl hqv hrow h4 hr hgo hbl
      go_wp2_with fail
      refine (HCP.out).mono ?_
      rintro e w2 ⟨vn, rfl, ho2, hb2⟩
      obtain ⟨na, nc, hne⟩ := ownsRow_slice ho2
      subst hne
      have hrow2 := ownsRow_below HK.out.2.1 hb2
      have f2 : w2.frozen? ⟨g, k * 3 + 2, none⟩ = false := hrow2.frozenAt _
      have e3 : w2.cell? ⟨g, k * 3 + 2, none⟩ = some (.slice qa q.1.posts.length qc) := (hb2.cell (p := ⟨g, k * 3 + 2, none⟩) hg).trans e2
      have hg2 : g < w2.heap.size := Nat.lt_of_lt_of_le hg hb2.size
      have hst := (hrow2.stored (k * 3 + 2) (.slice na q.1.posts.length nc)).1
      rw [flat_set HQ.out.1] at hst
      have H2 := hid (And.intro hb2 (And.intro ho2 hst))
      clear hrow2 ho2 hst hb2 e2
      go_wp2_with fail
      go_roundw
      case rel =>
        obtain ⟨hb2, ho2, hst⟩ := H2.out
        have hq := HQ.out.1
        have hkl := (List.getElem?_eq_some_iff.1 hq).1
        have t2 : Tch (fun x => x = g) wr (w2.setCell ⟨g, k * 3 + 2, none⟩ (.slice na q.1.posts.length nc)) := (Tch.of_below hb2 (fun x => x = g)).setCell (a := ⟨g, k * 3 + 2, none⟩) (.inl rfl) _
        have t3 : Tch (fun x => x = g) w2 (w2.setCell ⟨g, k * 3 + 2, none⟩ (.slice na q.1.posts.length nc)) := (Tch.refl (fun x => x = g) w2).setCell (a := ⟨g, k * 3 + 2, none⟩) (.inl rfl) _
        refine ⟨k + 1, bs'.set k (q.1, .slice na q.1.posts.length nc), by omega, by go_num, ?_, hst, ?_, ?_, ?_⟩
        · rw [List.map_set, ← HK.out.1]
          refine List.ext_getElem? fun i => ?_
          rw [List.getElem?_set]
          split
          · rename_i h; subst h
            rw [List.getElem?_map, hq]
            simp [hkl]
          · rfl
        · intro i q' hq' hi
          rw [List.getElem?_set] at hq'
          split at hq'
          · rename_i h
            subst h
            try rw [if_pos hkl] at hq'
            cases hq'
            exact (OwnP.own (B := w.heap.size) (row := .slice (some ⟨g, 0, none⟩) bs.length oc) ho2 (by omega) (HK.out.2.2.2.2.size) (fun r e => by
              have : g = r := Option.some.inj e
              omega)).tch t3 (fun x hx e => hx (by rw [e]; rfl))
          · exact (HK.out.2.2.1 i q' hq' (by omega)).tch (t2) (fun x hx e => hx (by rw [e]; rfl))
        · intro i q' hq' hi
          rw [List.getElem?_set, if_neg (by omega)] at hq'
          exact (HK.out.2.2.2.1 i q' hq' (by omega)).tch t2 (fun x hx e => by omega)
        · exact HK.out.2.2.2.2.trans (t2.below HK.out.2.2.2.2.size (fun x e => by omega))
      case measure => simp [RowKit.intOf]; omega
    · have hke : k = bs.length := by omega
      subst hke
      go_wp2_with fail
      go_ret
      obtain ⟨h1, h2, h3, h4, h5⟩ := HK.out
      refine ⟨_, bs', rfl, by rw [h1]; exact HA.out.books, by rw [HBL.out]; exact h2, fun q hq => ?_, h5⟩
      obtain ⟨i, hi⟩ := List.getElem?_of_mem hq
      exact h3 i q hi (by have := (List.getElem?_eq_some_iff.1 hi).1; have := HBL.out; omega)

/-- a list that is being written to -/
def Shown (B g cap : Nat) (bs : List (Lg.Bk × Value)) (w : World) : Prop :=
  (∃ c, w.heap[g]? = some (.cells c 36 (0, 0)) ∧ bs.length * 3 ≤ c.size ∧ ∀ i q, bs[i]? = some q → c[i * 3 + 2]? = some q.2) ∧ ∀ q ∈ bs, OwnP B (.slice (some ⟨g, 0, none⟩) bs.length cap) w q

theorem Shown.new {B : Nat} {g cap : Nat} {bs : List (Lg.Bk × Value)} {w : World} (h : w.ownsRow B 36 3 (.slice (some ⟨g, 0, none⟩) bs.length cap) bs.length (bs.flatMap bookC)) (hp : ∀ q ∈ bs, OwnP B (.slice (some ⟨g, 0, none⟩) bs.length cap) w q) : Shown B g cap bs w := by
  refine ⟨?_, hp⟩
  obtain ⟨a', cap', e', _, _, h4⟩ := SlIn.own h (fun x _ => rfl)
  cases e'
  rcases h.2 with ⟨h1, _⟩ | ⟨g', cap', cur, h1, _, hh, hn, _, hs, _⟩
  · cases h1
  · cases h1
    refine ⟨cur, hh, by omega, fun i q hq => ?_⟩
    obtain ⟨g2, o2, e2, _, hr⟩ := h4 (by have := (List.getElem?_eq_some_iff.1 hq).1; omega)
    cases e2
    have := hr.2 i q hq 2 q.2 rfl
    rw [Nat.zero_add] at this
    simpa [World.cell?, hh] using this

theorem Shown.id_ {B g cap : Nat} {bs : List (Lg.Bk × Value)} {w : World} (h : Shown B g cap bs w) (i : Nat) (u : Value) : Shown B g cap bs (w.setCell ⟨g, i * 3, none⟩ u) := by
  obtain ⟨⟨c, h1, h2, h3⟩, h4⟩ := h
  refine ⟨⟨_, blk_set h1 _ _, by simpa using h2, fun j q hq => ?_⟩, fun q hq => (h4 q hq).tch ((Tch.refl (fun k => k = g) w).setCell (a := ⟨g, i * 3, none⟩) (.inl rfl) u) (fun k hk e => hk (by rw [e]; rfl))⟩
  rw [Array.getElem?_setIfInBounds, if_neg (by omega)]
  exact h3 j q hq

theorem Shown.post_ {B g cap : Nat} {bs : List (Lg.Bk × Value)} {w : World} (h : Shown B g cap bs w) {g' : Nat} (hg : g' ≠ g) (i : Nat) (u : Value) : Shown B g cap bs (w.setCell ⟨g', i, none⟩ u) := by
  obtain ⟨⟨c, h1, h2, h3⟩, h4⟩ := h
  have T := (Tch.refl (fun k => k = g') w).setCell (a := ⟨g', i, none⟩) (.inl rfl) u
  refine ⟨⟨c, (T.block g (Array.getElem?_eq_some_iff.1 h1).1 (fun e => hg e.symm)).trans h1, h2, h3⟩, fun q hq => ?_⟩
  obtain ⟨gq, cq, ci, k1, k2, k3, k4, k5⟩ := h4 q hq
  by_cases e : gq = g'
  · subst e
    exact ⟨gq, cq, _, k1, k2, k3, blk_set k4 _ _, by simpa using k5⟩
  · exact ⟨gq, cq, ci, k1, k2, k3, (T.block gq (Array.getElem?_eq_some_iff.1 k4).1 e).trans k4, k5⟩

theorem Shown.below {B g cap : Nat} {bs : List (Lg.Bk × Value)} {w w' : World} (h : Shown B g cap bs w) (hb : Below w.heap.size w w') : Shown B g cap bs w' := by
  obtain ⟨⟨c, h1, h2, h3⟩, h4⟩ := h
  refine ⟨⟨c, (hb.block g (Array.getElem?_eq_some_iff.1 h1).1).trans h1, h2, h3⟩, fun q hq => ?_⟩
  obtain ⟨gq, cq, ci, k1, k2, k3, k4, k5⟩ := h4 q hq
  exact ⟨gq, cq, ci, k1, k2, k3, (hb.block gq (Array.getElem?_eq_some_iff.1 k4).1).trans k4, k5⟩

/-! ### a ledger that is nil -/
set_option maxRecDepth 100000 in
theorem balance_nil (w : World) (a : ByteArray) : Calls Tryd.prog 17 #[.pointer none, .string a] w (Gives (.tuple #[.int .i64 0, .int .i64 1]) w) := by
  go_enter Tryd.func17, Tryd.ntmps17
  go_wp2
  go_ret2
  exact ⟨rfl, Below.refl _ _⟩
set_option maxRecDepth 100000 in
theorem at_nil (w : World) (a : ByteArray) (t : Int) : Calls Tryd.prog 19 #[.pointer none, .string a, .int .i64 t] w (Gives (.tuple #[.int .i64 0, .int .i64 1]) w) := by
  go_enter Tryd.func19, Tryd.ntmps19
  go_wp2_with fail
  refine (balance_nil _ a).mono ?_
  rintro e w1 ⟨rfl, hb⟩
  have HB := hid (Below.trans (((Below.refl _ w).alloc (Nat.le_refl _) (.cells #[.string a] 9)).alloc (by simp) (.cells #[.int .i64 t] 3)) (hb.mono (by simp; omega)))
  clear hb
  go_wp2_with fail
  go_ret2
  exact ⟨rfl, Below.step HB.out ((Below.refl _ w1).alloc (Nat.le_refl _) _)⟩
set_option maxRecDepth 100000 in
theorem open_nil (w : World) (a : ByteArray) (c : Bool) : Calls Tryd.prog 13 #[.pointer none, .string a, .bool c] w (Gives (.int .i64 1) w) := by
  go_enter Tryd.func13, Tryd.ntmps13
  go_wp2_with fail
  go_ret
  exact ⟨rfl, Below.refl _ _⟩
set_option maxRecDepth 100000 in
theorem book_nil (w : World) (x : Lg.Bk) (a : Option Addr) (n c : Nat) : Calls Tryd.prog 15 #[.pointer none, .agg #[.string x.id, .int .i64 x.at_, .slice a n c]] w (Gives (.int .i64 1) w) := by
  go_enter Tryd.func15, Tryd.ntmps15
  go_wp2_with fail
  go_ret
  exact ⟨rfl, (Below.refl _ _).alloc (Nat.le_refl _) _⟩
set_option maxRecDepth 100000 in
theorem list_nil (w : World) : Calls Tryd.prog 22 #[.pointer none] w (Gives (.slice none 0 0) w) := by
  go_enter Tryd.func22, Tryd.ntmps22
  go_wp2_with fail
  go_ret
  exact ⟨rfl, Below.refl _ _⟩

end Go.Proofs.YtfkcphflcmpenaaDoor
