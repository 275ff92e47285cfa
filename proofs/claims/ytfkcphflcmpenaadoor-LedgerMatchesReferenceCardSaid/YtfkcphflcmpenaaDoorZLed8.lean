/-
  ledger.List: a copy of all bookings. Conditions: none.
-/
import Derived.Test.YtfkcphflcmpenaaDoorZLed7
namespace Go.Proofs.YtfkcphflcmpenaaDoor
open Go.RowKit Go.Maps

/-- what List ends in: rows of the call's own -/
def ListPost (l : List Lg.Bk) (w : World) (e : Ending) (w' : World) : Prop :=
  ∃ (v : Value) (bs : List (Lg.Bk × Value)), e = .returned v ∧ bs.map Prod.fst = l ∧ w'.ownsRow w.heap.size 36 3 v bs.length (bs.flatMap bookC) ∧ (∀ q ∈ bs, SlIn w' q.2 (fun k => w.heap.size ≤ k ∧ v.ownBlock ≠ some k) 2 postC q.1.posts) ∧ Below w.heap.size w w'

theorem flat_set {l : List (Lg.Bk × Value)} {k : Nat} {q : Lg.Bk × Value} (hq : l[k]? = some q) (u : Value) : (l.flatMap bookC).set (k * 3 + 2) u = (l.set k (q.1, u)).flatMap bookC := by
  induction l generalizing k with
  | nil => simp at hq
  | cons x l ih =>
    cases k with
    | zero =>
      simp at hq; subst hq
      simp [bookC]
    | succ k =>
      have h2 := ih (k := k) (by simpa using hq)
      rw [List.set_cons_succ, List.flatMap_cons, List.flatMap_cons, ← h2]
      rw [show (k + 1) * 3 + 2 = (k * 3 + 2) + 3 by omega]
      simp [bookC]

set_option maxRecDepth 100000 in
set_option maxHeartbeats 1000000 in
theorem clone_empty (g cap : Nat) (w : World) : Calls Tryd.prog 36 #[.slice (some ⟨g, 0, none⟩) 0 cap] w (CloneB [] w) := by
  obtain ⟨i0, hi, hz0, hz1, hz2⟩ := info_parts Tryd.infoBk
  have hown : (w.alloc (.cells #[] 36)).ownsRow w.heap.size 36 3 (.slice (some ⟨w.heap.size, 0, none⟩) 0 0) 0 [] := World.ownsRow_made w #[] 0 (Nat.le_refl _) (by unfold maxLen; omega) rfl
  have hb : Below w.heap.size w (w.alloc (.cells #[] 36)) := (Below.refl _ w).alloc (Nat.le_refl _) _
  have hnl := _root_.Go.run_eql_slice_nil (P := Tryd.prog) w 24 36 (some ⟨g, 0, none⟩) 0 cap Tryd.underlying24
  rw [show (some (⟨g, 0, none⟩ : Addr)).isNone = false from rfl] at hnl
  go_enter Tryd.func36, Tryd.ntmps36
  go_wp2_with (at_builtin; refine wpList_append_own _ rfl _ _ 24 rfl w.heap.size 36 i0 (.agg #[.string ⟨#[]⟩, .int .i64 0, .slice none 0 0]) 3 48 Tryd.underlying24 hi hz0 hz1 hz2 rfl (by decide) _ _ _ rfl hown ⟨g, 0, none⟩ 0 cap [] rfl rfl (fun j u h => by simp at h) (fun u h => by simp at h) (by unfold maxLen; omega) (by omega) (by simp) ?_; intro v' w' ho hg _)
  go_ret
  exact ⟨v', rfl, ho, Below.appended hb hg (by simp) hown⟩

set_option maxRecDepth 100000 in
set_option maxHeartbeats 4000000 in
theorem list_any (w : World) (p : Nat) (S : Lg.S) (O : Nat → Prop) (h : Led w p S O) : Calls Tryd.prog 22 #[.pointer (some ⟨p, 0, none⟩)] w (ListPost S.books w) := by
  obtain ⟨ba, bi, bt, v, bs, hA⟩ := h
  have HA := hid hA
  have hz := hA.lt p hA.op
  have hnb : bs.length ≤ 2000 := by have := hA.inv.fewB; rw [← hA.books, List.length_map] at this; exact this
  have HPF := hid (show ∀ q ∈ bs, 2 ≤ q.1.posts.length ∧ q.1.posts.length ≤ 12 from fun q hq => Lg.formed_len (hA.inv.formed q.1 (by rw [← hA.books]; exact List.mem_map_of_mem hq)))
  have hvv := SlIn.own hA.row (fun x _ => rfl)
  obtain ⟨va, vc, hve⟩ := hvv.slice
  have c1 : w.cell? ⟨p, 1, none⟩ = some v := by simp [World.cell?, hA.hp]
  rw [hve] at c1
  have hone : ∀ q ∈ bs, q.2.oneCell' = true := fun q hq => by
    obtain ⟨a, c, e⟩ := (hA.posts q hq).slice
    rw [e]; rfl
  have HC : Hid (Calls Tryd.prog 36 #[.slice va bs.length vc] w (CloneB bs w)) := by
    by_cases h0 : bs = []
    · subst h0
      rw [← hve]
      rcases hA.row.2 with ⟨h1, _⟩ | ⟨g, cap, cur, h1, _⟩
      · rw [h1]; exact clone_nil w
      · rw [h1]; exact clone_empty _ _ w
    · rw [← hve]
      exact clone_books bs v w hvv.slOf (List.length_pos_iff.2 h0) (by omega) hone
  clear hA hvv hone
  have HE := hid hve
  clear hve
  go_enter Tryd.func22, Tryd.ntmps22
  go_wp2_with fail
  refine (HC.out).mono ?_
  rintro e w1 ⟨out, rfl, ho1, hb1⟩
  have HW := hid hb1
  have HR := hid ho1
  obtain ⟨oa, oc, hoe⟩ := ownsRow_slice ho1
  subst hoe
  have hps : ∀ q ∈ bs, SlIn w1 q.2 (fun k => k < w.heap.size) 2 postC q.1.posts := fun q hq => ((HA.out.posts q hq).below hb1).mono (fun k hk _ => HA.out.lt k hk.1)
  have HPS := hid hps
  clear ho1 hb1 hps HC
  go_wp2_with fail
  go_loopw [14] (fun i wr => ∃ (k : Nat) (bs' : List (Lg.Bk × Value)), k ≤ bs.length ∧ i = .int .i64 k ∧ Hid (bs'.map Prod.fst = bs.map Prod.fst ∧ wr.ownsRow w.heap.size 36 3 (.slice oa bs.length oc) bs.length (bs'.flatMap bookC) ∧ (∀ i q, bs'[i]? = some q → i < k → SlIn wr q.2 (fun k => w.heap.size ≤ k ∧ (Value.slice oa bs.length oc).ownBlock ≠ some k) 2 postC q.1.posts) ∧
    (∀ i q, bs'[i]? = some q → k ≤ i → SlIn wr q.2 (fun k => k < w.heap.size) 2 postC q.1.posts) ∧ Below w.heap.size w wr)) (fun i _ => bs.length - (RowKit.intOf i).toNat)
  case atStart => exact ⟨0, bs, Nat.zero_le _, rfl, rfl, HR.out, fun i q _ h => by omega, fun i q hq _ => HPS.out q (List.mem_of_getElem? hq), HW.out⟩
  case round =>
    obtain ⟨k, bs', hk, rfl, HK⟩ := hrel
    have hbl : bs'.length = bs.length := by have := congrArg List.length HK.out.1; simpa using this
    have HBL := hid hbl
    by_cases hlt : k < bs.length
    · obtain ⟨q, hq⟩ : ∃ q, bs'[k]? = some q := ⟨_, List.getElem?_eq_getElem (by omega)⟩
      have hql : 2 ≤ q.1.posts.length ∧ q.1.posts.length ≤ 12 := by
        have h1 : (bs'.map Prod.fst)[k]? = some q.1 := by rw [List.getElem?_map, hq]; rfl
        rw [HK.out.1, List.getElem?_map] at h1
        cases h2 : bs[k]? with
        | none => rw [h2] at h1; cases h1
        | some q' =>
          rw [h2] at h1
          simp at h1
          have := HPF.out q' (List.mem_of_getElem? h2)
          rw [h1] at this
          exact this
      have hsl := HK.out.2.2.2.1 k q hq (Nat.le_refl _)
      obtain ⟨qa, qc, hqv⟩ := hsl.slice
      have hrow := HK.out.2.1
      rw [← hbl] at hrow
      obtain ⟨a', cap', ea, _, _, h4⟩ := SlIn.own hrow (fun x _ => rfl)
      rw [hbl] at ea h4
      cases ea
      obtain ⟨g, o, rfl, hgo, hr⟩ := h4 (by omega)
      have ho0 : o = 0 := by
        rcases hrow.2 with ⟨h1, _⟩ | ⟨g', cap, cur, h1, _⟩
        · cases h1
        · cases h1; rfl
      subst ho0
      have e2 := hr.2 k q hq 2 _ rfl
      rw [hqv, Nat.zero_add] at e2
      have hg := hr.1
      have hk0 : (0 : Int) ≤ (k : Int) := by omega
      have hk1 : (k : Int) < (bs.length : Int) := by omega
      have hgw : w.heap.size ≤ g := (HK.out.2.1.lt g rfl).1
      have HCP := hid (clone_posts q.1.posts q.2 wr hsl.slOf (by omega) (by omega))
      rw [hqv] at HCP
      have HQ := hid (And.intro hq hqv)
      clear hq hsl hqv hrow h4 hr hgo hbl
      go_wp2_with fail
      refine (HCP.out).mono ?_
      rintro e w2 ⟨vn, rfl, ho2, hb2⟩
      obtain ⟨na, nc, hne⟩ := ownsRow_slice ho2
      subst hne
      have hrow2 := ownsRow_below HK.out.2.1 hb2
      have f2 : w2.frozen? ⟨g, k * 3 + 2, none⟩ = false := hrow2.frozenAt _
      have e3 : w2.cell? ⟨g, k * 3 + 2, none⟩ = some (.slice qa q.1.posts.length qc) := (hb2.cell (p := ⟨g, k * 3 + 2, none⟩) hg).trans e2
      have hg2 : g < w2.heap.size := Nat.lt_of_lt_of_le hg hb2.size
      have hst := (hrow2.stored (k * 3 + 2) (.slice na q.1.posts.length nc)).1
      rw [flat_set HQ.out.1] at hst
      have H2 := hid (And.intro hb2 (And.intro ho2 hst))
      clear hrow2 ho2 hst hb2 e2
      go_wp2_with fail
      go_roundw
      case rel =>
        obtain ⟨hb2, ho2, hst⟩ := H2.out
        have hq := HQ.out.1
        have hkl := (List.getElem?_eq_some_iff.1 hq).1
        have t2 : Tch (fun x => x = g) wr (w2.setCell ⟨g, k * 3 + 2, none⟩ (.slice na q.1.posts.length nc)) := (Tch.of_below hb2 (fun x => x = g)).setCell (a := ⟨g, k * 3 + 2, none⟩) (.inl rfl) _
        have t3 : Tch (fun x => x = g) w2 (w2.setCell ⟨g, k * 3 + 2, none⟩ (.slice na q.1.posts.length nc)) := (Tch.refl (fun x => x = g) w2).setCell (a := ⟨g, k * 3 + 2, none⟩) (.inl rfl) _
        refine ⟨k + 1, bs'.set k (q.1, .slice na q.1.posts.length nc), by omega, by go_num, ?_, hst, ?_, ?_, ?_⟩
        · rw [List.map_set, ← HK.out.1]
          refine List.ext_getElem? fun i => ?_
          rw [List.getElem?_set]
          split
          · rename_i h; subst h
            rw [List.getElem?_map, hq]
            simp [hkl]
          · rfl
        · intro i q' hq' hi
          rw [List.getElem?_set] at hq'
          split at hq'
          · rename_i h
            subst h
            try rw [if_pos hkl] at hq'
            cases hq'
            refine ((SlIn.own ho2 (fun x _ => rfl)).tch t3 (fun x hx e => ?_)).mono (fun x hx _ => ?_)
            · have := (ho2.lt x hx).1; omega
            · have := (ho2.lt x hx).1
              refine ⟨by have := HK.out.2.2.2.2.size; omega, fun e => ?_⟩
              have : g = x := Option.some.inj e
              omega
          · exact (HK.out.2.2.1 i q' hq' (by omega)).tch t2 (fun x hx e => hx.2 (by rw [e]; rfl))
        · intro i q' hq' hi
          rw [List.getElem?_set, if_neg (by omega)] at hq'
          exact (HK.out.2.2.2.1 i q' hq' (by omega)).tch t2 (fun x hx e => by omega)
        · exact HK.out.2.2.2.2.trans (t2.below HK.out.2.2.2.2.size (fun x e => by omega))
      case measure => simp [RowKit.intOf]; omega
    · have hke : k = bs.length := by omega
      subst hke
      go_wp2_with fail
      go_ret
      obtain ⟨h1, h2, h3, h4, h5⟩ := HK.out
      refine ⟨_, bs', rfl, by rw [h1]; exact HA.out.books, by rw [HBL.out]; exact h2, fun q hq => ?_, h5⟩
      obtain ⟨i, hi⟩ := List.getElem?_of_mem hq
      exact h3 i q hi (by have := (List.getElem?_eq_some_iff.1 hi).1; have := HBL.out; omega)

end Go.Proofs.YtfkcphflcmpenaaDoor
