/-
  Several texts in one: ZLiD, ZLiE, ZLiF. Conditions: as each law says.
-/
import Derived.Test.YtidkmhokolknbaaGreatDoorZMLiB
import Derived.Test.YtidkmhokolknbaaGreatDoorZMLiA
import Derived.Deep.RegionHeld3
namespace Li

def fewNm (n : Nm) : Bool := decide (n.words.length ≤ 20) && n.words.all fun x => decide (x.length ≤ 100)
def fewEn (e : En) : Bool := decide (e.id.length ≤ 100) && decide (e.names.length ≤ 10) && e.names.all fewNm
def fewLs (l : List Ls) : Bool := decide (l.length ≤ 20) && l.all fun x => fewEn x.en
def fewCh (c : Ch) : Bool := decide (c.id.length ≤ 100) && fewEn c.en

end Li
namespace Go.Proofs.YtidkmhokolknbaaGreatDoor
open Go.RowKit Go.Lib Go.Maps

/-- names in memory, of whatever length -/
structure NmsRaw (w : World) (v : Value) (l : List (Li.Nm × Value)) : Prop where
  sl : SlOf w v 2 nmC l
  at_ : ∀ p ∈ l, NmAt w p
theorem NmsRaw.below {w w' : World} {v : Value} {l : List (Li.Nm × Value)} (h : NmsRaw w v l) (hb : Below w.heap.size w w') : NmsRaw w' v l := ⟨h.sl.below hb, fun p hp => (h.at_ p hp).below hb⟩
def NmsRin (w : World) (v : Value) (ns : List Li.Nm) : Prop := ∃ l : List (Li.Nm × Value), l.map Prod.fst = ns ∧ NmsRaw w v l
theorem NmsRin.below {w w' : World} {v : Value} {ns : List Li.Nm} (h : NmsRin w v ns) (hb : Below w.heap.size w w') : NmsRin w' v ns := by
  obtain ⟨l, h1, h2⟩ := h
  exact ⟨l, h1, h2.below hb⟩
theorem NmsRin.slice {w : World} {v : Value} {ns : List Li.Nm} (h : NmsRin w v ns) : ∃ a c, v = .slice a ns.length c := by
  obtain ⟨l, h1, h2⟩ := h
  obtain ⟨a, c, e, -⟩ := h2.sl
  exact ⟨a, c, by rw [e, ← h1, List.length_map]⟩
/-- lists in memory, of whatever size -/
structure LssRaw (w : World) (v : Value) (ps : List (Li.Ls × Value)) : Prop where
  sl : SlOf w v 5 lsC ps
  nm : ∀ p ∈ ps, NmsRin w p.2 p.1.en.names
theorem LssRaw.below {w w' : World} {v : Value} {ps : List (Li.Ls × Value)} (h : LssRaw w v ps) (hb : Below w.heap.size w w') : LssRaw w' v ps := ⟨h.sl.below hb, fun p hp => (h.nm p hp).below hb⟩

theorem NmsRin.few {w : World} {v : Value} {e : Li.En} (h : NmsRin w v e.names) (hf : Li.fewEn e = true) : NmsIn w v e.names := by
  obtain ⟨l, h1, h2⟩ := h
  refine ⟨l, h1, h2.sl, h2.at_, fun p hp x hx => ?_⟩
  unfold Li.fewEn at hf
  simp only [Bool.and_eq_true, List.all_eq_true] at hf
  have := hf.2 p.1 (by rw [← h1]; exact List.mem_map_of_mem hp)
  unfold Li.fewNm at this
  simp only [Bool.and_eq_true, List.all_eq_true, decide_eq_true_eq] at this
  have := this.2 x hx
  omega
theorem few_id {e : Li.En} (hf : Li.fewEn e = true) : e.id.length ≤ 100 := by
  unfold Li.fewEn at hf
  simp only [Bool.and_eq_true, decide_eq_true_eq] at hf
  exact hf.1.1
theorem LssRaw.few {w : World} {v : Value} {ps : List (Li.Ls × Value)} (h : LssRaw w v ps) (hf : Li.fewLs (ps.map Prod.fst) = true) : LssAt w v ps ∧ ps.length ≤ 20 := by
  unfold Li.fewLs at hf
  simp only [Bool.and_eq_true, decide_eq_true_eq, List.all_eq_true, List.length_map] at hf
  refine ⟨⟨h.sl, fun p hp => (h.nm p hp).few (hf.2 p.1 (List.mem_map_of_mem hp)), fun p hp => ?_⟩, hf.1⟩
  have := few_id (hf.2 p.1 (List.mem_map_of_mem hp))
  omega

/-- so far all are short -/
theorem allTo_step {α : Type} {f : α → Bool} {l : List α} {k : Nat} {x : α} (hx : l[k]? = some x) (h : (l.take k).all f = true) (hf : f x = true) : (l.take (k + 1)).all f = true := by
  rw [take_snoc hx, List.all_append, h]
  simpa using hf
theorem all_no {α : Type} {f : α → Bool} {l : List α} {k : Nat} {x : α} (hx : l[k]? = some x) (hf : f x = false) : l.all f = false := by
  rw [Bool.eq_false_iff]; intro h
  have := List.all_eq_true.1 h x (List.mem_of_getElem? hx)
  rw [hf] at this
  cases this
theorem all_end {α : Type} {f : α → Bool} {l : List α} {k n : Nat} (h : (l.take k).all f = true) (hk : ¬ (k < l.length ∧ k < n)) (hkl : k ≤ l.length) : (decide (l.length ≤ n) && l.all f) = decide (l.length ≤ n) := by
  by_cases hl : l.length ≤ n
  · have : k = l.length := by omega
    rw [this, List.take_length] at h
    rw [h, Bool.and_true]
  · rw [decide_eq_false hl]; rfl

set_option maxRecDepth 100000 in
set_option maxHeartbeats 2000000 in
theorem rFewN_any (p : Li.Nm × Value) (w : World) (h : NmAt w p) : Calls Tryz.prog 63 #[nmV p] w (Gives (.bool (Li.fewNm p.1)) w) := by
  obtain ⟨⟨sc, ws⟩, v⟩ := p
  unfold nmV
  simp only
  obtain ⟨W1, hW1⟩ : ∃ W1, W1 = w.alloc (.cells #[.int .i64 sc, v] 73) := ⟨_, rfl⟩
  obtain ⟨c0, c1, z1, hb1⟩ := name_box hW1
  have HB := hid hb1
  have HS := hid (h.below hb1)
  obtain ⟨va, cap, e, k1, k2, -⟩ := h
  simp only at e k1 k2
  subst e
  have hl1 : ws.length ≤ 9223372036854775807 := by unfold maxLen at k2; omega
  clear k1 k2 hb1
  go_enter Tryz.func63, Tryz.ntmps63
  go_upto_region 1 with (fail)
  rw [← hW1]
  clear hW1
  go_wp2_with fail
  go_loop [3] (fun iv => ∃ k : Nat, k ≤ ws.length ∧ iv = .int .i64 k ∧ Hid ((ws.take k).all (fun x => decide (x.length ≤ 100)) = true)) (fun iv => ws.length - (RowKit.intOf iv).toNat)
  case atStart => exact ⟨0, Nat.zero_le _, rfl, rfl⟩
  case round =>
    obtain ⟨k, hk, rfl, HK⟩ := hrel
    by_cases hlt : k < ws.length
    · have hk1 : (k : Int) < (ws.length : Int) := by omega
      by_cases h20 : k < 20
      · have hk2 : (k : Int) < 20 := by omega
        obtain ⟨x, hx⟩ : ∃ x, ws[k]? = some x := ⟨_, List.getElem?_eq_getElem hlt⟩
        obtain ⟨g, o, rfl, hg, e0⟩ : ∃ g o, va = some ⟨g, o, none⟩ ∧ g < W1.heap.size ∧ W1.cell? ⟨g, o + k, none⟩ = some (.string (bs x)) := by
          obtain ⟨a', cap', ev, -, -, hr⟩ := HS.out
          simp only at ev hr
          cases ev
          obtain ⟨g, o, ea, hr⟩ := hr (by omega)
          refine ⟨g, o, ea, hr.1, ?_⟩
          have := hr.2 k x hx 0 _ rfl
          simpa using this
        have hk0 : (0 : Int) ≤ (k : Int) := by omega
        have hbl := bs_len x
        have HX := hid hx
        clear hx
        by_cases hxl : x.length ≤ 100
        · have hx1 : ¬ (100 : Int) < ((bs x).size : Int) := by omega
          have HE := hid (allTo_step (f := fun x : List UInt8 => decide (x.length ≤ 100)) HX.out HK.out (decide_eq_true hxl))
          clear hxl hbl
          go_wp2_with fail
          go_round
          case rel => exact ⟨k + 1, by omega, by go_num, HE⟩
          case measure => simp [RowKit.intOf]; omega
        · have hx1 : (100 : Int) < ((bs x).size : Int) := by omega
          have HE := hid (show Li.fewNm ⟨sc, ws⟩ = false by
            unfold Li.fewNm
            rw [all_no (f := fun x : List UInt8 => decide (x.length ≤ 100)) HX.out (decide_eq_false hxl), Bool.and_false])
          clear hxl hbl
          go_wp2_with fail
          go_ret
          exact ⟨by rw [HE.out]; rfl, HB.out⟩
      · have hk2 : ¬ (k : Int) < 20 := by omega
        have HE := hid (show Li.fewNm ⟨sc, ws⟩ = decide ((ws.length : Int) ≤ 20) by
          unfold Li.fewNm
          rw [all_end HK.out (by omega) hk]
          exact decide_eq_decide.2 (by omega))
        go_wp2_with fail
        go_ret
        exact ⟨by rw [HE.out]; rfl, HB.out⟩
    · have hk1 : ¬ (k : Int) < (ws.length : Int) := by omega
      have HE := hid (show Li.fewNm ⟨sc, ws⟩ = decide ((ws.length : Int) ≤ 20) by
        unfold Li.fewNm
        rw [all_end HK.out (by omega) hk]
        exact decide_eq_decide.2 (by omega))
      go_wp2_with fail
      go_ret
      exact ⟨by rw [HE.out]; rfl, HB.out⟩

set_option maxRecDepth 100000 in
set_option maxHeartbeats 2000000 in
theorem rFewE_any (id : List UInt8) (ns : List Li.Nm) (v : Value) (w : World) (h : NmsRin w v ns) : Calls Tryz.prog 35 #[.agg #[.string (bs id), v]] w (Gives (.bool (Li.fewEn ⟨id, ns⟩)) w) := by
  obtain ⟨W1, hW1⟩ : ∃ W1, W1 = w.alloc (.cells #[.string (bs id), v] 25) := ⟨_, rfl⟩
  obtain ⟨c0, c1, z1, hb1⟩ := entry_box hW1
  have HB := hid hb1
  obtain ⟨l, hl, h⟩ := h
  have hll : l.length = ns.length := by rw [← hl, List.length_map]
  have HS := hid (h.below hb1)
  have HL := hid hl
  obtain ⟨⟨va, cap, rfl, k1, k2, -⟩, -⟩ := h
  rw [hll] at c1 ⊢
  have hl1 : ns.length ≤ 9223372036854775807 := by unfold maxLen at k2; omega
  have hbi := bs_len id
  have HC := hid (And.intro c0 (And.intro c1 z1))
  clear k1 k2 hb1 hl
  rw [hll] at hW1
  go_enter Tryz.func35, Tryz.ntmps35
  go_upto_region 1 with (fail)
  rw [← hW1]
  clear hW1
  go_wp2_with fail
  go_loopw [3] (fun iv wr => ∃ k : Nat, k ≤ ns.length ∧ iv = .int .i64 k ∧ Hid ((ns.take k).all Li.fewNm = true) ∧ Hid (Below W1.heap.size W1 wr)) (fun iv _ => ns.length - (RowKit.intOf iv).toNat)
  case atStart => exact ⟨0, Nat.zero_le _, rfl, rfl, Below.refl _ _⟩
  case round =>
    obtain ⟨k, hk, rfl, HK, HR⟩ := hrel
    have HBR := hid (Below.step HB.out HR.out)
    clear c0 c1 z1
    have c0 := (HR.out.cell (p := ⟨w.heap.size, 0, none⟩) HC.out.2.2).trans HC.out.1
    have c1 := (HR.out.cell (p := ⟨w.heap.size, 1, none⟩) HC.out.2.2).trans HC.out.2.1
    have z1 := Nat.lt_of_lt_of_le HC.out.2.2 HR.out.size
    have hend : ¬ (k < ns.length ∧ k < 10) → Hid (Li.fewEn ⟨id, ns⟩ = (decide (((bs id).size : Int) ≤ 100) && decide ((ns.length : Int) ≤ 10))) := fun hn => by
      show Li.fewEn ⟨id, ns⟩ = _
      unfold Li.fewEn
      simp only
      rw [Bool.and_assoc, all_end HK.out hn hk, bs_len]
      congr 1
      · exact decide_eq_decide.2 (by omega)
      · exact decide_eq_decide.2 (by omega)
    by_cases hlt : k < ns.length
    · have hk1 : (k : Int) < (ns.length : Int) := by omega
      by_cases h10 : k < 10
      · have hk2 : (k : Int) < 10 := by omega
        obtain ⟨q, hq⟩ : ∃ q, l[k]? = some q := ⟨_, List.getElem?_eq_getElem (by omega)⟩
        have hx : ns[k]? = some q.1 := by rw [← HL.out, List.getElem?_map, hq]; rfl
        have hqm := List.mem_of_getElem? hq
        obtain ⟨g, o, rfl, hr⟩ : ∃ g o, va = some ⟨g, o, none⟩ ∧ RowOf wr g o 2 nmC l := by
          obtain ⟨a', cap', ev, -, -, hr⟩ := HS.out.sl.below HR.out
          cases ev
          exact hr (by omega)
        have hc := hr.2 k q hq
        have e0 := hc 0 _ rfl
        have e1 := hc 1 _ rfl
        rw [Nat.add_zero] at e0
        have hg := hr.1
        have hk0 : (0 : Int) ≤ (k : Int) := by omega
        have HX := hid hx
        have HF := hid (rFewN_any q wr ((HS.out.at_ q hqm).below HR.out))
        unfold nmV at HF
        clear hc hr hq hx hqm hend
        go_wp2_with fail
        refine (HF.out).mono ?_
        rintro e w2 ⟨rfl, hb2⟩
        have HR2 := hid (Below.step HR.out hb2)
        have HB2 := hid (Below.step HBR.out hb2)
        clear hb2
        cases hf : Li.fewNm q.1 with
        | false =>
          have HE := hid (show Li.fewEn ⟨id, ns⟩ = false by unfold Li.fewEn; rw [all_no HX.out hf, Bool.and_false])
          clear hf
          go_wp2_with fail
          go_ret
          exact ⟨by rw [HE.out]; rfl, HB2.out⟩
        | true =>
          have HE := hid (allTo_step HX.out HK.out hf)
          clear hf
          go_wp2_with fail
          go_roundw
          case rel => exact ⟨k + 1, by omega, by go_num, HE, HR2⟩
          case measure => simp [RowKit.intOf]; omega
      · have hk2 : ¬ (k : Int) < 10 := by omega
        have HE := hend (by omega)
        clear hend
        by_cases hi : ((bs id).size : Int) ≤ 100
        · have HE2 := hid (show Li.fewEn ⟨id, ns⟩ = decide ((ns.length : Int) ≤ 10) by rw [HE.out, decide_eq_true hi]; rfl)
          go_wp2_with fail
          go_ret
          exact ⟨by rw [HE2.out]; rfl, HBR.out⟩
        · have HE2 := hid (show Li.fewEn ⟨id, ns⟩ = false by rw [HE.out, decide_eq_false hi]; rfl)
          go_wp2_with fail
          go_ret
          exact ⟨by rw [HE2.out]; rfl, HBR.out⟩
    · have hk1 : ¬ (k : Int) < (ns.length : Int) := by omega
      have HE := hend (by omega)
      clear hend
      by_cases hi : ((bs id).size : Int) ≤ 100
      · have HE2 := hid (show Li.fewEn ⟨id, ns⟩ = decide ((ns.length : Int) ≤ 10) by rw [HE.out, decide_eq_true hi]; rfl)
        go_wp2_with fail
        go_ret
        exact ⟨by rw [HE2.out]; rfl, HBR.out⟩
      · have HE2 := hid (show Li.fewEn ⟨id, ns⟩ = false by rw [HE.out, decide_eq_false hi]; rfl)
        go_wp2_with fail
        go_ret
        exact ⟨by rw [HE2.out]; rfl, HBR.out⟩

set_option maxRecDepth 100000 in
set_option maxHeartbeats 2000000 in
theorem rFewL_any (ps : List (Li.Ls × Value)) (v : Value) (w : World) (h : LssRaw w v ps) : Calls Tryz.prog 34 #[v, .int .i64 20] w (Gives (.bool (Li.fewLs (ps.map Prod.fst))) w) := by
  have HS := hid h
  obtain ⟨L, hL⟩ : ∃ L, L = ps.map Prod.fst := ⟨_, rfl⟩
  have hll : L.length = ps.length := by rw [hL, List.length_map]
  have HL := hid hL
  rw [← hL]
  obtain ⟨⟨va, cap, rfl, k1, k2, -⟩, -⟩ := h
  have hl1 : ps.length ≤ 9223372036854775807 := by unfold maxLen at k2; omega
  clear k1 k2 hL
  go_enter Tryz.func34, Tryz.ntmps34
  go_wp2_with fail
  go_loopw [5] (fun iv wr => ∃ k : Nat, k ≤ ps.length ∧ iv = .int .i64 k ∧ Hid ((L.take k).all (fun x => Li.fewEn x.en) = true) ∧ Hid (Below w.heap.size w wr)) (fun iv _ => ps.length - (RowKit.intOf iv).toNat)
  case atStart => exact ⟨0, Nat.zero_le _, rfl, rfl, Below.refl _ _⟩
  case round =>
    obtain ⟨k, hk, rfl, HK, HR⟩ := hrel
    have hend : ¬ (k < L.length ∧ k < 20) → Hid (Li.fewLs L = decide ((ps.length : Int) ≤ 20)) := fun hn => by
      show Li.fewLs L = _
      unfold Li.fewLs
      rw [all_end HK.out hn (by omega)]
      exact decide_eq_decide.2 (by omega)
    by_cases hlt : k < ps.length
    · have hk1 : (k : Int) < (ps.length : Int) := by omega
      by_cases h20 : k < 20
      · have hk2 : (k : Int) < 20 := by omega
        obtain ⟨q, hq⟩ : ∃ q, ps[k]? = some q := ⟨_, List.getElem?_eq_getElem hlt⟩
        have hx : L[k]? = some q.1 := by rw [HL.out, List.getElem?_map, hq]; rfl
        have hqm := List.mem_of_getElem? hq
        obtain ⟨g, o, rfl, hr⟩ : ∃ g o, va = some ⟨g, o, none⟩ ∧ RowOf wr g o 5 lsC ps := by
          obtain ⟨a', cap', ev, -, -, hr⟩ := HS.out.sl.below HR.out
          cases ev
          exact hr (by omega)
        have hc := hr.2 k q hq
        have e0 := hc 0 _ rfl
        have e1 := hc 1 _ rfl
        rw [Nat.add_zero] at e0
        have hg := hr.1
        have hk0 : (0 : Int) ≤ (k : Int) := by omega
        have HX := hid hx
        have HF := hid (rFewE_any q.1.en.id q.1.en.names q.2 wr ((HS.out.nm q hqm).below HR.out))
        clear hc hr hq hx hqm hend
        go_wp2_with fail
        refine (HF.out).mono ?_
        rintro e w2 ⟨rfl, hb2⟩
        have HR2 := hid (Below.step HR.out hb2)
        clear hb2
        cases hf : Li.fewEn ⟨q.1.en.id, q.1.en.names⟩ with
        | false =>
          have HE := hid (show Li.fewLs L = false by unfold Li.fewLs; rw [all_no (f := fun x : Li.Ls => Li.fewEn x.en) HX.out hf, Bool.and_false])
          clear hf
          go_wp2_with fail
          go_ret
          exact ⟨by rw [HE.out]; rfl, HR2.out⟩
        | true =>
          have HE := hid (allTo_step (f := fun x : Li.Ls => Li.fewEn x.en) HX.out HK.out hf)
          clear hf
          go_wp2_with fail
          go_roundw
          case rel => exact ⟨k + 1, by omega, by go_num, HE, HR2⟩
          case measure => simp [RowKit.intOf]; omega
      · have hk2 : ¬ (k : Int) < 20 := by omega
        have HE := hend (by omega)
        clear hend
        go_wp2_with fail
        go_ret
        exact ⟨by rw [HE.out]; rfl, HR.out⟩
    · have hk1 : ¬ (k : Int) < (ps.length : Int) := by omega
      have HE := hend (by omega)
      clear hend
      go_wp2_with fail
      go_ret
      exact ⟨by rw [HE.out]; rfl, HR.out⟩

set_option maxRecDepth 100000 in
set_option maxHeartbeats 2000000 in
theorem rFewC_any (kd : Int) (id eid : List UInt8) (ns : List Li.Nm) (u : Value) (at_ : Int) (w : World) (h : NmsRin w u ns) : Calls Tryz.prog 13 #[.agg #[.int .i64 kd, .string (bs id), .string (bs eid), u, .int .i64 at_]] w (Gives (.bool (Li.fewCh ⟨kd, id, ⟨eid, ns⟩, at_⟩)) w) := by
  obtain ⟨na, nc, rfl⟩ := h.slice
  obtain ⟨W1, hW1⟩ : ∃ W1, W1 = w.alloc (.cells #[.int .i64 kd, .string (bs id), .string (bs eid), .slice na ns.length nc, .int .i64 at_] 27) := ⟨_, rfl⟩
  have HX := hid (ChBox.new hW1)
  have HB := hid HX.out.below
  have HF := hid (rFewE_any eid ns _ W1 (h.below HB.out))
  have hbi := bs_len id
  obtain ⟨c0, c1, c2, c3, c4, z1, -⟩ := HX.out
  clear h
  go_enter Tryz.func13, Tryz.ntmps13
  go_upto_region 1 with (fail)
  rw [← hW1]
  clear hW1
  by_cases hi : ((bs id).size : Int) ≤ 100
  · have HE := hid (show Li.fewCh ⟨kd, id, ⟨eid, ns⟩, at_⟩ = Li.fewEn ⟨eid, ns⟩ by unfold Li.fewCh; rw [decide_eq_true (show id.length ≤ 100 by omega)]; rfl)
    go_wp2_with fail
    refine (HF.out).mono ?_
    rintro e w2 ⟨rfl, hb2⟩
    have HB2 := hid (Below.step HB.out hb2)
    clear hb2
    go_wp2_with fail
    go_ret
    exact ⟨by rw [HE.out]; rfl, HB2.out⟩
  · have HE := hid (show Li.fewCh ⟨kd, id, ⟨eid, ns⟩, at_⟩ = false by unfold Li.fewCh; rw [decide_eq_false (show ¬ id.length ≤ 100 by omega)]; rfl)
    go_wp2_with fail
    go_ret
    exact ⟨by rw [HE.out]; rfl, HB.out⟩

set_option maxRecDepth 100000 in
set_option maxHeartbeats 2000000 in
theorem lawFew_any (ps : List (Li.Ls × Value)) (v : Value) (kd : Int) (id eid : List UInt8) (ns : List Li.Nm) (u : Value) (at_ : Int) (w : World) (hl : LssRaw w v ps) (h : NmsRin w u ns) :
    Calls Tryz.prog 12 #[v, .agg #[.int .i64 kd, .string (bs id), .string (bs eid), u, .int .i64 at_]] w (Gives (.bool (Li.fewLs (ps.map Prod.fst) && Li.fewCh ⟨kd, id, ⟨eid, ns⟩, at_⟩)) w) := by
  obtain ⟨na, nc, rfl⟩ := h.slice
  obtain ⟨W1, hW1⟩ : ∃ W1, W1 = w.alloc (.cells #[.int .i64 kd, .string (bs id), .string (bs eid), .slice na ns.length nc, .int .i64 at_] 27) := ⟨_, rfl⟩
  have HX := hid (ChBox.new hW1)
  have HB := hid HX.out.below
  have HL := hid (rFewL_any ps v W1 (hl.below HB.out))
  have HN := hid h
  obtain ⟨⟨va, cap, rfl, -, -, -⟩, -⟩ := hl
  clear h
  go_enter Tryz.func12, Tryz.ntmps12
  go_upto_region 1 with (fail)
  rw [← hW1]
  clear hW1
  go_wp2_with fail
  refine (HL.out).mono ?_
  rintro e w2 ⟨rfl, hb2⟩
  have HB2 := hid (Below.step HB.out hb2)
  have HX2 := hid (HX.out.step hb2)
  have HC := hid (rFewC_any kd id eid ns _ at_ w2 (HN.out.below HB2.out))
  obtain ⟨c0, c1, c2, c3, c4, z1, -⟩ := HX2.out
  clear hb2
  cases hf : Li.fewLs (ps.map Prod.fst) with
  | false =>
    have HE := hid hf
    clear hf
    go_wp2_with fail
    go_ret
    exact ⟨by rw [HE.out]; rfl, HB2.out⟩
  | true =>
    have HE := hid hf
    clear hf
    go_wp2_with fail
    refine (HC.out).mono ?_
    rintro e w3 ⟨rfl, hb3⟩
    have HB3 := hid (Below.step HB2.out hb3)
    clear hb3
    go_wp2_with fail
    go_ret
    exact ⟨by rw [HE.out]; rfl, HB3.out⟩

end Go.Proofs.YtidkmhokolknbaaGreatDoor

namespace Go.Proofs.YtidkmhokolknbaaGreatDoor
open Go.RowKit Go.Lib Go.Maps

section
variable {α : Type} {a b : List α} {k : Nat} {x y : α}
theorem eqTo_step (ha : a[k]? = some x) (hb : b[k]? = some x) (h : a.take k = b.take k) : a.take (k + 1) = b.take (k + 1) := by rw [take_snoc ha, take_snoc hb, h]
theorem eq_no (ha : a[k]? = some x) (hb : b[k]? = some y) (h : x ≠ y) : ¬ a = b := fun e => by
  subst e
  rw [ha] at hb
  exact h (Option.some.inj hb)
theorem eq_end (hl : a.length = b.length) (hk : ¬ k < a.length) (h : a.take k = b.take k) : a = b := by
  rwa [List.take_of_length_le (by omega), List.take_of_length_le (by omega)] at h
end
theorem below_drewN' {w W : World} (h : Below w.heap.size w W) (n : Nat) : Below w.heap.size w (W.drewN n) := Below.step h (Below.drewQ W n)

set_option maxRecDepth 100000 in
set_option maxHeartbeats 2000000 in
theorem texts_any (l1 l2 : List (List UInt8)) (v1 v2 : Value) (w : World) (h1 : SlOf w v1 1 strC l1) (h2 : SlOf w v2 1 strC l2) : Calls Tryz.prog 86 #[v1, v2] w (Gives (.bool (decide (l1 = l2))) w) := by
  have HS1 := hid h1
  have HS2 := hid h2
  obtain ⟨a1, k1, rfl, p1, q1, -⟩ := h1
  obtain ⟨a2, k2, rfl, p2, q2, -⟩ := h2
  have hl1 : l1.length ≤ 9223372036854775807 := by unfold maxLen at q1; omega
  have hl2 : l2.length ≤ 9223372036854775807 := by unfold maxLen at q2; omega
  clear p1 q1 p2 q2
  by_cases hll : l1.length = l2.length
  · have HLL := hid hll
    have hne : ((l1.length : Int) != (l2.length : Int)) = false := by rw [hll]; simp
    clear hll
    go_enter Tryz.func86, Tryz.ntmps86
    go_wp2_with fail
    go_loopw [5] (fun iv wr => ∃ k : Nat, k ≤ l1.length ∧ iv = .int .i64 k ∧ Hid (l1.take k = l2.take k) ∧ Hid (Below w.heap.size w wr)) (fun iv _ => l1.length - (RowKit.intOf iv).toNat)
    case atStart => exact ⟨0, Nat.zero_le _, rfl, rfl, Below.refl _ _⟩
    case round =>
      obtain ⟨k, hk, rfl, HK, HR⟩ := hrel
      by_cases hlt : k < l1.length
      · obtain ⟨x, hx⟩ : ∃ x, l1[k]? = some x := ⟨_, List.getElem?_eq_getElem hlt⟩
        obtain ⟨y, hy⟩ : ∃ y, l2[k]? = some y := ⟨_, List.getElem?_eq_getElem (by have := HLL.out; omega)⟩
        obtain ⟨g1, o1, rfl, hg1, e0⟩ : ∃ g o, a1 = some ⟨g, o, none⟩ ∧ g < wr.heap.size ∧ wr.cell? ⟨g, o + k, none⟩ = some (.string (bs x)) := by
          obtain ⟨a', cap', ev, -, -, hr⟩ := HS1.out.below HR.out
          cases ev
          obtain ⟨g, o, ea, hr⟩ := hr (by omega)
          exact ⟨g, o, ea, hr.1, by have := hr.2 k x hx 0 _ rfl; simpa using this⟩
        obtain ⟨g2, o2, rfl, hg2, f0⟩ : ∃ g o, a2 = some ⟨g, o, none⟩ ∧ g < wr.heap.size ∧ wr.cell? ⟨g, o + k, none⟩ = some (.string (bs y)) := by
          obtain ⟨a', cap', ev, -, -, hr⟩ := HS2.out.below HR.out
          cases ev
          obtain ⟨g, o, ea, hr⟩ := hr (by have := HLL.out; omega)
          exact ⟨g, o, ea, hr.1, by have := hr.2 k y hy 0 _ rfl; simpa using this⟩
        have hk0 : (0 : Int) ≤ (k : Int) := by omega
        have hk1 : (k : Int) < (l1.length : Int) := by omega
        have hk2 : (k : Int) < (l2.length : Int) := by have := HLL.out; omega
        have hl := name_beq x y
        have HX := hid hx
        have HY := hid hy
        clear hx hy
        by_cases hxy : x = y
        · have HE := hid (eqTo_step HX.out (by rw [hxy]; exact HY.out) HK.out)
          rw [decide_eq_true hxy] at hl
          clear hxy
          go_wp2_with fail
          go_quiet (fail)
          go_wp2_with fail
          go_roundw
          case rel => exact ⟨k + 1, by omega, by go_num, HE, below_drewN' HR.out _⟩
          case measure => simp [RowKit.intOf]; omega
        · have HE := hid (decide_eq_false (eq_no HX.out HY.out hxy))
          rw [decide_eq_false hxy] at hl
          clear hxy
          go_wp2_with fail
          go_quiet (fail)
          go_wp2_with fail
          go_ret
          exact ⟨by rw [HE.out]; rfl, below_drewN' HR.out _⟩
      · have HE := hid (decide_eq_true (eq_end HLL.out hlt HK.out))
        go_wp2_with fail
        go_ret
        exact ⟨by rw [HE.out]; rfl, HR.out⟩
  · have hne : ((l1.length : Int) != (l2.length : Int)) = true := by rw [bne_iff_ne]; omega
    have HE := hid (decide_eq_false (show ¬ l1 = l2 from fun e => hll (by rw [e])))
    clear hll
    go_enter Tryz.func86, Tryz.ntmps86
    go_wp2_with fail
    go_ret
    exact ⟨by rw [HE.out]; rfl, Below.refl _ _⟩

theorem nm_eq (a b : Li.Nm) : decide (a = b) = ((a.script == b.script) && decide (a.words = b.words)) := by
  obtain ⟨i, n⟩ := a
  obtain ⟨j, m⟩ := b
  rw [Bool.eq_iff_iff]
  simp

set_option maxRecDepth 100000 in
set_option maxHeartbeats 2000000 in
theorem sameN_any (p q : Li.Nm × Value) (w : World) (h1 : NmAt w p) (h2 : NmAt w q) : Calls Tryz.prog 62 #[nmV p, nmV q] w (Gives (.bool (decide (p.1 = q.1))) w) := by
  have HN := hid (nm_eq p.1 q.1)
  obtain ⟨⟨s1, l1⟩, v1⟩ := p
  obtain ⟨⟨s2, l2⟩, v2⟩ := q
  unfold nmV
  simp only at HN ⊢
  obtain ⟨W1, hW1⟩ : ∃ W1, W1 = w.alloc (.cells #[.int .i64 s1, v1] 73) := ⟨_, rfl⟩
  obtain ⟨c0, c1, z1, hb1⟩ := name_box hW1
  obtain ⟨W2, hW2⟩ : ∃ W2, W2 = W1.alloc (.cells #[.int .i64 s2, v2] 73) := ⟨_, rfl⟩
  obtain ⟨d0, d1, z2, hb2⟩ := name_box hW2
  rw [show W1.heap.size = w.heap.size + 1 by rw [hW1, World.size_alloc]] at d0 d1 z2
  replace c0 := (hb2.cell (p := ⟨w.heap.size, 0, none⟩) z1).trans c0
  replace c1 := (hb2.cell (p := ⟨w.heap.size, 1, none⟩) z1).trans c1
  replace z1 := Nat.lt_of_lt_of_le z1 hb2.size
  have HB := hid (Below.step hb1 hb2)
  have HT := hid (texts_any l1 l2 v1 v2 W2 (h1.below HB.out) (h2.below HB.out))
  obtain ⟨a1, k1, e1, -⟩ := h1
  obtain ⟨a2, k2, e2, -⟩ := h2
  simp only at e1 e2
  subst e1
  subst e2
  clear hb1 hb2
  go_enter Tryz.func62, Tryz.ntmps62
  go_upto_region 1 with (fail)
  rw [← hW1, ← hW2]
  clear hW1 hW2
  cases hs : (s1 == s2) with
  | false =>
    have HE := hid (show decide ((⟨s1, l1⟩ : Li.Nm) = ⟨s2, l2⟩) = false by rw [HN.out, hs]; rfl)
    go_wp2_with fail
    go_ret
    exact ⟨by rw [HE.out]; rfl, HB.out⟩
  | true =>
    have HE := hid (show decide ((⟨s1, l1⟩ : Li.Nm) = ⟨s2, l2⟩) = decide (l1 = l2) by rw [HN.out, hs]; rfl)
    go_wp2_with fail
    refine (HT.out).mono ?_
    rintro e w3 ⟨rfl, hb3⟩
    have HB3 := hid (Below.step HB.out hb3)
    clear hb3
    go_wp2_with fail
    go_ret
    exact ⟨by rw [HE.out]; rfl, HB3.out⟩

theorem en_eq (i j : List UInt8) (n m : List Li.Nm) : decide ((⟨i, n⟩ : Li.En) = ⟨j, m⟩) = (decide (i = j) && decide (n = m)) := by
  rw [Bool.eq_iff_iff]
  simp

set_option maxRecDepth 100000 in
set_option maxHeartbeats 4000000 in
theorem sameE_any (i1 i2 : List UInt8) (n1 n2 : List Li.Nm) (v1 v2 : Value) (w : World) (h1 : NmsRin w v1 n1) (h2 : NmsRin w v2 n2) :
    Calls Tryz.prog 29 #[.agg #[.string (bs i1), v1], .agg #[.string (bs i2), v2]] w (Gives (.bool (decide ((⟨i1, n1⟩ : Li.En) = ⟨i2, n2⟩))) w) := by
  have HN := hid (en_eq i1 i2 n1 n2)
  obtain ⟨ba1, bc1, rfl⟩ := h1.slice
  obtain ⟨ba2, bc2, rfl⟩ := h2.slice
  obtain ⟨W1, hW1⟩ : ∃ W1, W1 = w.alloc (.cells #[.string (bs i1), .slice ba1 n1.length bc1] 25) := ⟨_, rfl⟩
  obtain ⟨c0, c1, z1, hb1⟩ := entry_box hW1
  obtain ⟨W2, hW2⟩ : ∃ W2, W2 = W1.alloc (.cells #[.string (bs i2), .slice ba2 n2.length bc2] 25) := ⟨_, rfl⟩
  obtain ⟨d0, d1, z2, hb2⟩ := entry_box hW2
  rw [show W1.heap.size = w.heap.size + 1 by rw [hW1, World.size_alloc]] at d0 d1 z2
  replace c0 := (hb2.cell (p := ⟨w.heap.size, 0, none⟩) z1).trans c0
  replace c1 := (hb2.cell (p := ⟨w.heap.size, 1, none⟩) z1).trans c1
  replace z1 := Nat.lt_of_lt_of_le z1 hb2.size
  have HB := hid (Below.step hb1 hb2)
  have HC := hid (And.intro c1 (And.intro d1 (And.intro z1 z2)))
  obtain ⟨l1, g1, r1⟩ := h1.below HB.out
  obtain ⟨l2, g2, r2⟩ := h2.below HB.out
  have HR1 := hid (And.intro g1 r1)
  have HR2 := hid (And.intro g2 r2)
  have hl1 : n1.length ≤ 9223372036854775807 := by
    obtain ⟨a, c, e, p, q, -⟩ := r1.sl
    have : l1.length = n1.length := by rw [← g1, List.length_map]
    unfold maxLen at q; omega
  have hl2 : n2.length ≤ 9223372036854775807 := by
    obtain ⟨a, c, e, p, q, -⟩ := r2.sl
    have : l2.length = n2.length := by rw [← g2, List.length_map]
    unfold maxLen at q; omega
  have hle := name_beq i1 i2
  clear hb1 hb2 h1 h2 g1 g2 r1 r2
  go_enter Tryz.func29, Tryz.ntmps29
  go_upto_region 1 with (fail)
  rw [← hW1, ← hW2]
  clear hW1 hW2
  by_cases hi : i1 = i2
  · rw [decide_eq_true hi] at hle
    have HI := hid (show decide ((⟨i1, n1⟩ : Li.En) = ⟨i2, n2⟩) = decide (n1 = n2) by rw [HN.out, decide_eq_true hi]; rfl)
    clear hi
    by_cases hll : n1.length = n2.length
    · have HLL := hid hll
      have hne : ((n1.length : Int) != (n2.length : Int)) = false := by rw [hll]; simp
      clear hll
      go_wp2_with fail
      go_loopw [5] (fun iv wr => ∃ k : Nat, k ≤ n1.length ∧ iv = .int .i64 k ∧ Hid (n1.take k = n2.take k) ∧ Hid (Below W2.heap.size W2 wr)) (fun iv _ => n1.length - (RowKit.intOf iv).toNat)
      case atStart => exact ⟨0, Nat.zero_le _, rfl, rfl, Below.refl _ _⟩
      case round =>
        obtain ⟨k, hk, rfl, HK, HR⟩ := hrel
        clear c0 c1 d0 d1 z1 z2
        have c1 := (HR.out.cell (p := ⟨w.heap.size, 1, none⟩) HC.out.2.2.1).trans HC.out.1
        have d1 := (HR.out.cell (p := ⟨w.heap.size + 1, 1, none⟩) HC.out.2.2.2).trans HC.out.2.1
        have z1 := Nat.lt_of_lt_of_le HC.out.2.2.1 HR.out.size
        have z2 := Nat.lt_of_lt_of_le HC.out.2.2.2 HR.out.size
        by_cases hlt : k < n1.length
        · obtain ⟨x, hx⟩ : ∃ x, l1[k]? = some x := ⟨_, List.getElem?_eq_getElem (by have h := HR1.out.1; rw [← h, List.length_map] at hlt; exact hlt)⟩
          obtain ⟨y, hy⟩ : ∃ y, l2[k]? = some y := ⟨_, List.getElem?_eq_getElem (by have h := HR2.out.1; have h2 := HLL.out; rw [h2, ← h, List.length_map] at hlt; exact hlt)⟩
          have hnx : n1[k]? = some x.1 := by rw [← HR1.out.1, List.getElem?_map, hx]; rfl
          have hny : n2[k]? = some y.1 := by rw [← HR2.out.1, List.getElem?_map, hy]; rfl
          obtain ⟨g1, o1, rfl, hr1⟩ : ∃ g o, ba1 = some ⟨g, o, none⟩ ∧ RowOf W2 g o 2 nmC l1 := by
            obtain ⟨a', cap', ev, -, -, hr⟩ := HR1.out.2.sl
            have e1 := (Value.slice.inj ev).1
            subst e1
            exact hr (List.length_pos_of_mem (List.mem_of_getElem? hx))
          obtain ⟨g2, o2, rfl, hr2⟩ : ∃ g o, ba2 = some ⟨g, o, none⟩ ∧ RowOf W2 g o 2 nmC l2 := by
            obtain ⟨a', cap', ev, -, -, hr⟩ := HR2.out.2.sl
            have e1 := (Value.slice.inj ev).1
            subst e1
            exact hr (List.length_pos_of_mem (List.mem_of_getElem? hy))
          have HX := hid (HR1.out.2.at_ x (List.mem_of_getElem? hx))
          have HY := hid (HR2.out.2.at_ y (List.mem_of_getElem? hy))
          have HNX := hid (And.intro hnx hny)
          obtain ⟨⟨s1, w1⟩, u1⟩ := x
          obtain ⟨⟨s2, w2⟩, u2⟩ := y
          obtain ⟨xa, xc, hu1⟩ : ∃ a c, u1 = .slice a w1.length c := by obtain ⟨a, c, e, -⟩ := HX.out; exact ⟨a, c, e⟩
          obtain ⟨ya, yc, hu2⟩ : ∃ a c, u2 = .slice a w2.length c := by obtain ⟨a, c, e, -⟩ := HY.out; exact ⟨a, c, e⟩
          subst hu1
          subst hu2
          have HK2 : Hid (∀ W, Below W2.heap.size W2 W → Below W2.heap.size W2 W ∧ W.cell? ⟨w.heap.size, 1, none⟩ = some (.slice (some ⟨g1, o1, none⟩) n1.length bc1) ∧ W.cell? ⟨w.heap.size + 1, 1, none⟩ = some (.slice (some ⟨g2, o2, none⟩) n2.length bc2) ∧ 
              W.cell? ⟨g1, o1 + k * 2, none⟩ = some (.int .i64 s1) ∧ W.cell? ⟨g1, o1 + k * 2 + 1, none⟩ = some (.slice xa w1.length xc) ∧ W.cell? ⟨g2, o2 + k * 2, none⟩ = some (.int .i64 s2) ∧ W.cell? ⟨g2, o2 + k * 2 + 1, none⟩ = some (.slice ya w2.length yc)) := by
            intro W hW
            have hc := (hr1.below hW).2 k _ hx
            have hd := (hr2.below hW).2 k _ hy
            exact ⟨hW, (hW.cell (p := ⟨w.heap.size, 1, none⟩) HC.out.2.2.1).trans HC.out.1, (hW.cell (p := ⟨w.heap.size + 1, 1, none⟩) HC.out.2.2.2).trans HC.out.2.1, hc 0 _ rfl, hc 1 _ rfl, hd 0 _ rfl, hd 1 _ rfl⟩
          obtain ⟨bq, hbq⟩ : ∃ b, b = decide ((⟨s1, w1⟩ : Li.Nm) = ⟨s2, w2⟩) := ⟨_, rfl⟩
          have HF : Hid (∀ W, Below W2.heap.size W2 W → Calls Tryz.prog 62 #[.agg #[.int .i64 s1, .slice xa w1.length xc], .agg #[.int .i64 s2, .slice ya w2.length yc]] W (Gives (.bool bq) W)) := fun W hW => by
            rw [hbq]
            exact sameN_any (⟨s1, w1⟩, .slice xa w1.length xc) (⟨s2, w2⟩, .slice ya w2.length yc) W (HX.out.below hW) (HY.out.below hW)
          have HXY := hid hbq
          clear hbq
          have hg1 := Nat.lt_of_lt_of_le hr1.1 HR.out.size
          have hg2 := Nat.lt_of_lt_of_le hr2.1 HR.out.size
          have hk0 : (0 : Int) ≤ (k : Int) := by omega
          have hk1 : (k : Int) < (n1.length : Int) := by omega
          have hk2 : (k : Int) < (n2.length : Int) := by have := HLL.out; omega
          clear hr1 hr2 hx hy hnx hny
          go_wp2_with fail
          go_region_held3 (fun wx => Below W2.heap.size W2 wx ∧ wx.cell? ⟨w.heap.size, 1, none⟩ = some (.slice (some ⟨g1, o1, none⟩) n1.length bc1) ∧ wx.cell? ⟨w.heap.size + 1, 1, none⟩ = some (.slice (some ⟨g2, o2, none⟩) n2.length bc2) ∧ 
              wx.cell? ⟨g1, o1 + k * 2, none⟩ = some (.int .i64 s1) ∧ wx.cell? ⟨g1, o1 + k * 2 + 1, none⟩ = some (.slice xa w1.length xc) ∧ wx.cell? ⟨g2, o2 + k * 2, none⟩ = some (.int .i64 s2) ∧ wx.cell? ⟨g2, o2 + k * 2 + 1, none⟩ = some (.slice ya w2.length yc))
            (first | (exact HK2.out _ HR.out) | (exact HK2.out _ HR.out.drew) | (go_split_ands; refine HK2.out _ ?_; first | assumption | (refine Below.step ?_ hbx; assumption) | (refine Below.step ?_ hbx; exact HR.out.drew)))
            (first | (go_at_call 62; refine (HF.out _ (by first | assumption | exact HR.out.drew)).mono ?_; rintro e wy ⟨rfl, hbx⟩))
          have hbz : Below W2.heap.size W2 wy := by first | assumption | exact Below.step HR.out.drew hbx
          have HBZ := hid hbz
          clear hbz hbx
          cases bq with
          | true =>
            have HE := hid (eqTo_step HNX.out.1 (by rw [of_decide_eq_true HXY.out.symm]; exact HNX.out.2) HK.out)
            go_wp2_with fail
            go_roundw
            case rel => exact ⟨k + 1, by omega, by go_num, HE, HBZ⟩
            case measure => simp [RowKit.intOf]; omega
          | false =>
            have HE := hid (decide_eq_false (eq_no HNX.out.1 HNX.out.2 (of_decide_eq_false HXY.out.symm)))
            go_wp2_with fail
            go_ret
            exact ⟨by rw [HI.out, HE.out]; rfl, Below.step HB.out HBZ.out⟩
        · have HE := hid (decide_eq_true (eq_end HLL.out hlt HK.out))
          go_wp2_with fail
          go_ret
          exact ⟨by rw [HI.out, HE.out]; rfl, Below.step HB.out HR.out⟩
    · have hne : ((n1.length : Int) != (n2.length : Int)) = true := by rw [bne_iff_ne]; omega
      have HE := hid (decide_eq_false (show ¬ n1 = n2 from fun e => hll (by rw [e])))
      clear hll
      go_wp2_with fail
      go_ret
      exact ⟨by rw [HI.out, HE.out]; rfl, HB.out⟩
  · rw [decide_eq_false hi] at hle
    have HI := hid (show decide ((⟨i1, n1⟩ : Li.En) = ⟨i2, n2⟩) = false by rw [HN.out, decide_eq_false hi]; rfl)
    clear hi
    go_wp2_with fail
    go_ret
    exact ⟨by rw [HI.out]; rfl, HB.out⟩

end Go.Proofs.YtidkmhokolknbaaGreatDoor

namespace Go.Proofs.YtidkmhokolknbaaGreatDoor
open Go.RowKit Go.Lib Go.Maps

theorem ls_eq (e1 e2 : Li.En) (f1 f2 t1 t2 : Int) (b1 b2 : Bool) : decide ((⟨e1, f1, t1, b1⟩ : Li.Ls) = ⟨e2, f2, t2, b2⟩) = (decide (e1 = e2) && (f1 == f2) && (t1 == t2) && (b1 == b2)) := by
  rw [Bool.eq_iff_iff]
  simp [and_assoc]
theorem ch_eq (k1 k2 : Int) (i1 i2 : List UInt8) (e1 e2 : Li.En) (a1 a2 : Int) : decide ((⟨k1, i1, e1, a1⟩ : Li.Ch) = ⟨k2, i2, e2, a2⟩) = ((k1 == k2) && decide (i1 = i2) && decide (e1 = e2) && (a1 == a2)) := by
  rw [Bool.eq_iff_iff]
  simp [and_assoc]

set_option maxRecDepth 100000 in
set_option maxHeartbeats 4000000 in
theorem sameL_any (i1 i2 : List UInt8) (n1 n2 : List Li.Nm) (v1 v2 : Value) (f1 f2 t1 t2 : Int) (b1 b2 : Bool) (w : World) (h1 : NmsRin w v1 n1) (h2 : NmsRin w v2 n2) :
    Calls Tryz.prog 30 #[.agg #[.string (bs i1), v1, .int .i64 f1, .int .i64 t1, .bool b1], .agg #[.string (bs i2), v2, .int .i64 f2, .int .i64 t2, .bool b2]] w (Gives (.bool (decide ((⟨⟨i1, n1⟩, f1, t1, b1⟩ : Li.Ls) = ⟨⟨i2, n2⟩, f2, t2, b2⟩))) w) := by
  have HN := hid (ls_eq ⟨i1, n1⟩ ⟨i2, n2⟩ f1 f2 t1 t2 b1 b2)
  obtain ⟨ba1, bc1, rfl⟩ := h1.slice
  obtain ⟨ba2, bc2, rfl⟩ := h2.slice
  obtain ⟨W1, hW1⟩ : ∃ W1, W1 = w.alloc (.cells #[.string (bs i1), .slice ba1 n1.length bc1, .int .i64 f1, .int .i64 t1, .bool b1] 50) := ⟨_, rfl⟩
  obtain ⟨W2, hW2⟩ : ∃ W2, W2 = W1.alloc (.cells #[.string (bs i2), .slice ba2 n2.length bc2, .int .i64 f2, .int .i64 t2, .bool b2] 50) := ⟨_, rfl⟩
  have HX1 := (LsBox.new hW1)
  have HX2 := hid (LsBox.new hW2)
  have HZ := hid (show W1.heap.size = w.heap.size + 1 by rw [hW1, World.size_alloc])
  have HY1 := hid (HX1.step HX2.out.below)
  have HB := hid HY1.out.below
  obtain ⟨bq, hbq⟩ : ∃ b, b = decide ((⟨i1, n1⟩ : Li.En) = ⟨i2, n2⟩) := ⟨_, rfl⟩
  have HE := hid (sameE_any i1 i2 n1 n2 _ _ W2 (h1.below HB.out) (h2.below HB.out))
  rw [← hbq] at HE HN
  clear hbq
  obtain ⟨c0, c1, c2, c3, c4, z1, -⟩ := HY1.out
  obtain ⟨d0, d1, d2, d3, d4, z2, -⟩ := HX2.out
  rw [HZ.out] at d0 d1 d2 d3 d4 z2
  clear HX1 h1 h2
  go_enter Tryz.func30, Tryz.ntmps30
  go_upto_region 1 with (fail)
  rw [← hW1, ← hW2]
  clear hW1 hW2
  go_wp2_with fail
  refine (HE.out).mono ?_
  rintro e w3 ⟨rfl, hb3⟩
  have HB3 := hid (Below.step HB.out hb3)
  have HY3 := hid (HY1.out.step hb3)
  have HX3 := hid (HX2.out.step hb3)
  clear c0 c1 c2 c3 c4 z1 d0 d1 d2 d3 d4 z2 hb3
  obtain ⟨c0, c1, c2, c3, c4, z1, -⟩ := HY3.out
  obtain ⟨d0, d1, d2, d3, d4, z2, -⟩ := HX3.out
  rw [HZ.out] at d0 d1 d2 d3 d4 z2
  cases bq with
  | false =>
    go_wp2_with fail
    go_ret
    exact ⟨by rw [HN.out]; rfl, HB3.out⟩
  | true =>
    cases q1 : (f1 == f2) with
    | false =>
      rw [q1] at HN
      go_wp2_with fail
      go_ret
      exact ⟨by rw [HN.out]; rfl, HB3.out⟩
    | true =>
      rw [q1] at HN
      cases q2 : (t1 == t2) with
      | false =>
        rw [q2] at HN
        go_wp2_with fail
        go_ret
        exact ⟨by rw [HN.out]; rfl, HB3.out⟩
      | true =>
        rw [q2] at HN
        go_wp2_with fail
        go_ret
        exact ⟨by rw [HN.out]; rfl, HB3.out⟩

set_option maxRecDepth 100000 in
set_option maxHeartbeats 4000000 in
theorem sameC_any (k1 k2 : Int) (i1 i2 j1 j2 : List UInt8) (n1 n2 : List Li.Nm) (v1 v2 : Value) (a1 a2 : Int) (w : World) (h1 : NmsRin w v1 n1) (h2 : NmsRin w v2 n2) :
    Calls Tryz.prog 28 #[.agg #[.int .i64 k1, .string (bs i1), .string (bs j1), v1, .int .i64 a1], .agg #[.int .i64 k2, .string (bs i2), .string (bs j2), v2, .int .i64 a2]] w (Gives (.bool (decide ((⟨k1, i1, ⟨j1, n1⟩, a1⟩ : Li.Ch) = ⟨k2, i2, ⟨j2, n2⟩, a2⟩))) w) := by
  have HN := hid (ch_eq k1 k2 i1 i2 ⟨j1, n1⟩ ⟨j2, n2⟩ a1 a2)
  obtain ⟨ba1, bc1, rfl⟩ := h1.slice
  obtain ⟨ba2, bc2, rfl⟩ := h2.slice
  obtain ⟨W1, hW1⟩ : ∃ W1, W1 = w.alloc (.cells #[.int .i64 k1, .string (bs i1), .string (bs j1), .slice ba1 n1.length bc1, .int .i64 a1] 27) := ⟨_, rfl⟩
  obtain ⟨W2, hW2⟩ : ∃ W2, W2 = W1.alloc (.cells #[.int .i64 k2, .string (bs i2), .string (bs j2), .slice ba2 n2.length bc2, .int .i64 a2] 27) := ⟨_, rfl⟩
  have HX1 := (ChBox.new hW1)
  have HX2 := hid (ChBox.new hW2)
  have HZ := hid (show W1.heap.size = w.heap.size + 1 by rw [hW1, World.size_alloc])
  have HY1 := hid (HX1.step HX2.out.below)
  have HB := hid HY1.out.below
  obtain ⟨bq, hbq⟩ : ∃ b, b = decide ((⟨j1, n1⟩ : Li.En) = ⟨j2, n2⟩) := ⟨_, rfl⟩
  have HE := hid (sameE_any j1 j2 n1 n2 _ _ W2 (h1.below HB.out) (h2.below HB.out))
  rw [← hbq] at HE HN
  clear hbq
  have hle := name_beq i1 i2
  obtain ⟨c0, c1, c2, c3, c4, z1, -⟩ := HY1.out
  obtain ⟨d0, d1, d2, d3, d4, z2, -⟩ := HX2.out
  rw [HZ.out] at d0 d1 d2 d3 d4 z2
  clear HX1 h1 h2
  go_enter Tryz.func28, Tryz.ntmps28
  go_upto_region 1 with (fail)
  rw [← hW1, ← hW2]
  clear hW1 hW2
  cases q1 : (k1 == k2) with
  | false =>
    rw [q1] at HN
    go_wp2_with fail
    go_ret
    exact ⟨by rw [HN.out]; rfl, HB.out⟩
  | true =>
    rw [q1] at HN
    cases q2 : decide (i1 = i2) with
    | false =>
      rw [q2] at HN hle
      clear q2
      go_wp2_with fail
      go_ret
      exact ⟨by rw [HN.out]; rfl, HB.out⟩
    | true =>
      rw [q2] at HN hle
      clear q2
      go_wp2_with fail
      refine (HE.out).mono ?_
      rintro e w3 ⟨rfl, hb3⟩
      have HB3 := hid (Below.step HB.out hb3)
      have HY3 := hid (HY1.out.step hb3)
      have HX3 := hid (HX2.out.step hb3)
      clear c0 c1 c2 c3 c4 z1 d0 d1 d2 d3 d4 z2 hb3
      obtain ⟨c0, c1, c2, c3, c4, z1, -⟩ := HY3.out
      obtain ⟨d0, d1, d2, d3, d4, z2, -⟩ := HX3.out
      rw [HZ.out] at d0 d1 d2 d3 d4 z2
      cases bq with
      | false =>
        go_wp2_with fail
        go_ret
        exact ⟨by rw [HN.out]; rfl, HB3.out⟩
      | true =>
        go_wp2_with fail
        go_ret
        exact ⟨by rw [HN.out]; rfl, HB3.out⟩


set_option maxRecDepth 100000 in
set_option maxHeartbeats 4000000 in
theorem sameEs_any (l1 l2 : List (Li.En × Value)) (v1 v2 : Value) (w : World) (h1 : SlOf w v1 2 enC l1) (h2 : SlOf w v2 2 enC l2) (hn1 : ∀ p ∈ l1, NmsRin w p.2 p.1.names) (hn2 : ∀ p ∈ l2, NmsRin w p.2 p.1.names) :
    Calls Tryz.prog 25 #[v1, v2] w (Gives (.bool (decide (l1.map Prod.fst = l2.map Prod.fst))) w) := by
  have HS1 := hid (And.intro h1 hn1)
  have HS2 := hid (And.intro h2 hn2)
  obtain ⟨a1, k1, rfl, p1, q1, -⟩ := h1
  obtain ⟨a2, k2, rfl, p2, q2, -⟩ := h2
  have hl1 : l1.length ≤ 9223372036854775807 := by unfold maxLen at q1; omega
  have hl2 : l2.length ≤ 9223372036854775807 := by unfold maxLen at q2; omega
  clear p1 q1 p2 q2 hn1 hn2
  obtain ⟨L1, hL1⟩ : ∃ L, L = l1.map Prod.fst := ⟨_, rfl⟩
  obtain ⟨L2, hL2⟩ : ∃ L, L = l2.map Prod.fst := ⟨_, rfl⟩
  rw [← hL1, ← hL2]
  have HL1 := hid hL1
  have HL2 := hid hL2
  have HM1 := hid (show L1.length = l1.length by rw [hL1, List.length_map])
  have HM2 := hid (show L2.length = l2.length by rw [hL2, List.length_map])
  clear hL1 hL2
  by_cases hll : l1.length = l2.length
  · have HLL := hid hll
    have hne : ((l1.length : Int) != (l2.length : Int)) = false := by rw [hll]; simp
    clear hll
    go_enter Tryz.func25, Tryz.ntmps25
    go_wp2_with fail
    go_loopw [5] (fun iv wr => ∃ k : Nat, k ≤ l1.length ∧ iv = .int .i64 k ∧ Hid (L1.take k = L2.take k) ∧ Hid (Below w.heap.size w wr)) (fun iv _ => l1.length - (RowKit.intOf iv).toNat)
    case atStart => exact ⟨0, Nat.zero_le _, rfl, rfl, Below.refl _ _⟩
    case round =>
      obtain ⟨k, hk, rfl, HK, HR⟩ := hrel
      by_cases hlt : k < l1.length
      · obtain ⟨x, hx⟩ : ∃ x, l1[k]? = some x := ⟨_, List.getElem?_eq_getElem hlt⟩
        obtain ⟨y, hy⟩ : ∃ y, l2[k]? = some y := ⟨_, List.getElem?_eq_getElem (by have := HLL.out; omega)⟩
        have hnx : L1[k]? = some x.1 := by rw [HL1.out, List.getElem?_map, hx]; rfl
        have hny : L2[k]? = some y.1 := by rw [HL2.out, List.getElem?_map, hy]; rfl
        obtain ⟨g1, o1, rfl, hr1⟩ : ∃ g o, a1 = some ⟨g, o, none⟩ ∧ RowOf w g o 2 enC l1 := by
          obtain ⟨a', cap', ev, -, -, hr⟩ := HS1.out.1
          cases ev
          exact hr (by omega)
        obtain ⟨g2, o2, rfl, hr2⟩ : ∃ g o, a2 = some ⟨g, o, none⟩ ∧ RowOf w g o 2 enC l2 := by
          obtain ⟨a', cap', ev, -, -, hr⟩ := HS2.out.1
          cases ev
          exact hr (by have := HLL.out; omega)
        have HX := hid (HS1.out.2 x (List.mem_of_getElem? hx))
        have HY := hid (HS2.out.2 y (List.mem_of_getElem? hy))
        have HNX := hid (And.intro hnx hny)
        obtain ⟨⟨i1, n1⟩, u1⟩ := x
        obtain ⟨⟨i2, n2⟩, u2⟩ := y
        obtain ⟨xa, xc, hu1⟩ := HX.out.slice
        obtain ⟨ya, yc, hu2⟩ := HY.out.slice
        simp only at hu1 hu2 HX HY HNX
        subst hu1
        subst hu2
        have HK2 : Hid (∀ W, Below w.heap.size w W → Below w.heap.size w W ∧ W.cell? ⟨g1, o1 + k * 2, none⟩ = some (.string (bs i1)) ∧ W.cell? ⟨g1, o1 + k * 2 + 1, none⟩ = some (.slice xa n1.length xc) ∧ W.cell? ⟨g2, o2 + k * 2, none⟩ = some (.string (bs i2)) ∧ W.cell? ⟨g2, o2 + k * 2 + 1, none⟩ = some (.slice ya n2.length yc)) := by
          intro W hW
          have hc := (hr1.below hW).2 k _ hx
          have hd := (hr2.below hW).2 k _ hy
          exact ⟨hW, hc 0 _ rfl, hc 1 _ rfl, hd 0 _ rfl, hd 1 _ rfl⟩
        obtain ⟨bq, hbq⟩ : ∃ b, b = decide ((⟨i1, n1⟩ : Li.En) = ⟨i2, n2⟩) := ⟨_, rfl⟩
        have HF : Hid (∀ W, Below w.heap.size w W → Calls Tryz.prog 29 #[.agg #[.string (bs i1), .slice xa n1.length xc], .agg #[.string (bs i2), .slice ya n2.length yc]] W (Gives (.bool bq) W)) := fun W hW => by
          rw [hbq]
          exact sameE_any i1 i2 n1 n2 _ _ W (HX.out.below hW) (HY.out.below hW)
        have HXY := hid hbq
        clear hbq
        have hg1 := Nat.lt_of_lt_of_le hr1.1 HR.out.size
        have hg2 := Nat.lt_of_lt_of_le hr2.1 HR.out.size
        have hk0 : (0 : Int) ≤ (k : Int) := by omega
        have hk1 : (k : Int) < (l1.length : Int) := by omega
        have hk2 : (k : Int) < (l2.length : Int) := by have := HLL.out; omega
        clear hr1 hr2 hx hy hnx hny
        go_wp2_with fail
        go_region_held3 (fun wx => Below w.heap.size w wx ∧ wx.cell? ⟨g1, o1 + k * 2, none⟩ = some (.string (bs i1)) ∧ wx.cell? ⟨g1, o1 + k * 2 + 1, none⟩ = some (.slice xa n1.length xc) ∧ wx.cell? ⟨g2, o2 + k * 2, none⟩ = some (.string (bs i2)) ∧ wx.cell? ⟨g2, o2 + k * 2 + 1, none⟩ = some (.slice ya n2.length yc))
          (first | (exact HK2.out _ HR.out) | (exact HK2.out _ HR.out.drew) | (go_split_ands; refine HK2.out _ ?_; first | assumption | (refine Below.step ?_ hbx; assumption) | (refine Below.step ?_ hbx; exact HR.out.drew)))
          (first | (go_at_call 29; refine (HF.out _ (by first | assumption | exact HR.out.drew)).mono ?_; rintro e wy ⟨rfl, hbx⟩))
        have hbz : Below w.heap.size w wy := by first | assumption | exact Below.step HR.out.drew hbx
        have HBZ := hid hbz
        clear hbz hbx
        cases bq with
        | true =>
          have HE := hid (eqTo_step HNX.out.1 (by rw [of_decide_eq_true HXY.out.symm]; exact HNX.out.2) HK.out)
          go_wp2_with fail
          go_roundw
          case rel => exact ⟨k + 1, by omega, by go_num, HE, HBZ⟩
          case measure => simp [RowKit.intOf]; omega
        | false =>
          have HE := hid (decide_eq_false (eq_no HNX.out.1 HNX.out.2 (of_decide_eq_false HXY.out.symm)))
          go_wp2_with fail
          go_ret
          exact ⟨by rw [HE.out]; rfl, HBZ.out⟩
      · have HE := hid (decide_eq_true (eq_end (by rw [HM1.out, HM2.out]; exact HLL.out) (by rw [HM1.out]; exact hlt) HK.out))
        go_wp2_with fail
        go_ret
        exact ⟨by rw [HE.out]; rfl, HR.out⟩
  · have hne : ((l1.length : Int) != (l2.length : Int)) = true := by rw [bne_iff_ne]; omega
    have HE := hid (decide_eq_false (show ¬ L1 = L2 from fun e => hll (by rw [← HM1.out, ← HM2.out, e])))
    clear hll
    go_enter Tryz.func25, Tryz.ntmps25
    go_wp2_with fail
    go_ret
    exact ⟨by rw [HE.out]; rfl, Below.refl _ _⟩


set_option maxRecDepth 100000 in
set_option maxHeartbeats 4000000 in
theorem sameLs_any (l1 l2 : List (Li.Ls × Value)) (v1 v2 : Value) (w : World) (h1 : SlOf w v1 5 lsC l1) (h2 : SlOf w v2 5 lsC l2) (hn1 : ∀ p ∈ l1, NmsRin w p.2 p.1.en.names) (hn2 : ∀ p ∈ l2, NmsRin w p.2 p.1.en.names) :
    Calls Tryz.prog 24 #[v1, v2] w (Gives (.bool (decide (l1.map Prod.fst = l2.map Prod.fst))) w) := by
  have HS1 := hid (And.intro h1 hn1)
  have HS2 := hid (And.intro h2 hn2)
  obtain ⟨a1, k1, rfl, p1, q1, -⟩ := h1
  obtain ⟨a2, k2, rfl, p2, q2, -⟩ := h2
  have hl1 : l1.length ≤ 9223372036854775807 := by unfold maxLen at q1; omega
  have hl2 : l2.length ≤ 9223372036854775807 := by unfold maxLen at q2; omega
  clear p1 q1 p2 q2 hn1 hn2
  obtain ⟨L1, hL1⟩ : ∃ L, L = l1.map Prod.fst := ⟨_, rfl⟩
  obtain ⟨L2, hL2⟩ : ∃ L, L = l2.map Prod.fst := ⟨_, rfl⟩
  rw [← hL1, ← hL2]
  have HL1 := hid hL1
  have HL2 := hid hL2
  have HM1 := hid (show L1.length = l1.length by rw [hL1, List.length_map])
  have HM2 := hid (show L2.length = l2.length by rw [hL2, List.length_map])
  clear hL1 hL2
  by_cases hll : l1.length = l2.length
  · have HLL := hid hll
    have hne : ((l1.length : Int) != (l2.length : Int)) = false := by rw [hll]; simp
    clear hll
    go_enter Tryz.func24, Tryz.ntmps24
    go_wp2_with fail
    go_loopw [5] (fun iv wr => ∃ k : Nat, k ≤ l1.length ∧ iv = .int .i64 k ∧ Hid (L1.take k = L2.take k) ∧ Hid (Below w.heap.size w wr)) (fun iv _ => l1.length - (RowKit.intOf iv).toNat)
    case atStart => exact ⟨0, Nat.zero_le _, rfl, rfl, Below.refl _ _⟩
    case round =>
      obtain ⟨k, hk, rfl, HK, HR⟩ := hrel
      by_cases hlt : k < l1.length
      · obtain ⟨x, hx⟩ : ∃ x, l1[k]? = some x := ⟨_, List.getElem?_eq_getElem hlt⟩
        obtain ⟨y, hy⟩ : ∃ y, l2[k]? = some y := ⟨_, List.getElem?_eq_getElem (by have := HLL.out; omega)⟩
        have hnx : L1[k]? = some x.1 := by rw [HL1.out, List.getElem?_map, hx]; rfl
        have hny : L2[k]? = some y.1 := by rw [HL2.out, List.getElem?_map, hy]; rfl
        obtain ⟨g1, o1, rfl, hr1⟩ : ∃ g o, a1 = some ⟨g, o, none⟩ ∧ RowOf w g o 5 lsC l1 := by
          obtain ⟨a', cap', ev, -, -, hr⟩ := HS1.out.1
          cases ev
          exact hr (by omega)
        obtain ⟨g2, o2, rfl, hr2⟩ : ∃ g o, a2 = some ⟨g, o, none⟩ ∧ RowOf w g o 5 lsC l2 := by
          obtain ⟨a', cap', ev, -, -, hr⟩ := HS2.out.1
          cases ev
          exact hr (by have := HLL.out; omega)
        have HX := hid (HS1.out.2 x (List.mem_of_getElem? hx))
        have HY := hid (HS2.out.2 y (List.mem_of_getElem? hy))
        have HNX := hid (And.intro hnx hny)
        obtain ⟨⟨⟨i1, n1⟩, f1, t1, b1⟩, u1⟩ := x
        obtain ⟨⟨⟨i2, n2⟩, f2, t2, b2⟩, u2⟩ := y
        obtain ⟨xa, xc, hu1⟩ := HX.out.slice
        obtain ⟨ya, yc, hu2⟩ := HY.out.slice
        simp only at hu1 hu2 HX HY HNX
        subst hu1
        subst hu2
        have HK2 : Hid (∀ W, Below w.heap.size w W → Below w.heap.size w W ∧ W.cell? ⟨g1, o1 + k * 5, none⟩ = some (.string (bs i1)) ∧ W.cell? ⟨g1, o1 + k * 5 + 1, none⟩ = some (.slice xa n1.length xc) ∧ W.cell? ⟨g1, o1 + k * 5 + 2, none⟩ = some (.int .i64 f1) ∧ W.cell? ⟨g1, o1 + k * 5 + 3, none⟩ = some (.int .i64 t1) ∧ W.cell? ⟨g1, o1 + k * 5 + 4, none⟩ = some (.bool b1) ∧ W.cell? ⟨g2, o2 + k * 5, none⟩ = some (.string (bs i2)) ∧ W.cell? ⟨g2, o2 + k * 5 + 1, none⟩ = some (.slice ya n2.length yc) ∧ W.cell? ⟨g2, o2 + k * 5 + 2, none⟩ = some (.int .i64 f2) ∧ W.cell? ⟨g2, o2 + k * 5 + 3, none⟩ = some (.int .i64 t2) ∧ W.cell? ⟨g2, o2 + k * 5 + 4, none⟩ = some (.bool b2)) := by
          intro W hW
          have hc := (hr1.below hW).2 k _ hx
          have hd := (hr2.below hW).2 k _ hy
          exact ⟨hW, hc 0 _ rfl, hc 1 _ rfl, hc 2 _ rfl, hc 3 _ rfl, hc 4 _ rfl, hd 0 _ rfl, hd 1 _ rfl, hd 2 _ rfl, hd 3 _ rfl, hd 4 _ rfl⟩
        obtain ⟨bq, hbq⟩ : ∃ b, b = decide ((⟨⟨i1, n1⟩, f1, t1, b1⟩ : Li.Ls) = ⟨⟨i2, n2⟩, f2, t2, b2⟩) := ⟨_, rfl⟩
        have HF : Hid (∀ W, Below w.heap.size w W → Calls Tryz.prog 30 #[.agg #[.string (bs i1), .slice xa n1.length xc, .int .i64 f1, .int .i64 t1, .bool b1], .agg #[.string (bs i2), .slice ya n2.length yc, .int .i64 f2, .int .i64 t2, .bool b2]] W (Gives (.bool bq) W)) := fun W hW => by
          rw [hbq]
          exact sameL_any i1 i2 n1 n2 _ _ f1 f2 t1 t2 b1 b2 W (HX.out.below hW) (HY.out.below hW)
        have HXY := hid hbq
        clear hbq
        have hg1 := Nat.lt_of_lt_of_le hr1.1 HR.out.size
        have hg2 := Nat.lt_of_lt_of_le hr2.1 HR.out.size
        have hk0 : (0 : Int) ≤ (k : Int) := by omega
        have hk1 : (k : Int) < (l1.length : Int) := by omega
        have hk2 : (k : Int) < (l2.length : Int) := by have := HLL.out; omega
        clear hr1 hr2 hx hy hnx hny
        go_wp2_with fail
        go_region_held3 (fun wx => Below w.heap.size w wx ∧ wx.cell? ⟨g1, o1 + k * 5, none⟩ = some (.string (bs i1)) ∧ wx.cell? ⟨g1, o1 + k * 5 + 1, none⟩ = some (.slice xa n1.length xc) ∧ wx.cell? ⟨g1, o1 + k * 5 + 2, none⟩ = some (.int .i64 f1) ∧ wx.cell? ⟨g1, o1 + k * 5 + 3, none⟩ = some (.int .i64 t1) ∧ wx.cell? ⟨g1, o1 + k * 5 + 4, none⟩ = some (.bool b1) ∧ wx.cell? ⟨g2, o2 + k * 5, none⟩ = some (.string (bs i2)) ∧ wx.cell? ⟨g2, o2 + k * 5 + 1, none⟩ = some (.slice ya n2.length yc) ∧ wx.cell? ⟨g2, o2 + k * 5 + 2, none⟩ = some (.int .i64 f2) ∧ wx.cell? ⟨g2, o2 + k * 5 + 3, none⟩ = some (.int .i64 t2) ∧ wx.cell? ⟨g2, o2 + k * 5 + 4, none⟩ = some (.bool b2))
          (first | (exact HK2.out _ HR.out) | (exact HK2.out _ HR.out.drew) | (go_split_ands; refine HK2.out _ ?_; first | assumption | (refine Below.step ?_ hbx; assumption) | (refine Below.step ?_ hbx; exact HR.out.drew)))
          (first | (go_at_call 30; refine (HF.out _ (by first | assumption | exact HR.out.drew)).mono ?_; rintro e wy ⟨rfl, hbx⟩))
        have hbz : Below w.heap.size w wy := by first | assumption | exact Below.step HR.out.drew hbx
        have HBZ := hid hbz
        clear hbz hbx
        cases bq with
        | true =>
          have HE := hid (eqTo_step HNX.out.1 (by rw [of_decide_eq_true HXY.out.symm]; exact HNX.out.2) HK.out)
          go_wp2_with fail
          go_roundw
          case rel => exact ⟨k + 1, by omega, by go_num, HE, HBZ⟩
          case measure => simp [RowKit.intOf]; omega
        | false =>
          have HE := hid (decide_eq_false (eq_no HNX.out.1 HNX.out.2 (of_decide_eq_false HXY.out.symm)))
          go_wp2_with fail
          go_ret
          exact ⟨by rw [HE.out]; rfl, HBZ.out⟩
      · have HE := hid (decide_eq_true (eq_end (by rw [HM1.out, HM2.out]; exact HLL.out) (by rw [HM1.out]; exact hlt) HK.out))
        go_wp2_with fail
        go_ret
        exact ⟨by rw [HE.out]; rfl, HR.out⟩
  · have hne : ((l1.length : Int) != (l2.length : Int)) = true := by rw [bne_iff_ne]; omega
    have HE := hid (decide_eq_false (show ¬ L1 = L2 from fun e => hll (by rw [← HM1.out, ← HM2.out, e])))
    clear hll
    go_enter Tryz.func24, Tryz.ntmps24
    go_wp2_with fail
    go_ret
    exact ⟨by rw [HE.out]; rfl, Below.refl _ _⟩

end Go.Proofs.YtidkmhokolknbaaGreatDoor
