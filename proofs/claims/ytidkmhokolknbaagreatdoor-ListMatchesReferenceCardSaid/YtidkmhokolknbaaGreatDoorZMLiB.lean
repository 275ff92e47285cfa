/-
  Several texts in one: ZLiFind, ZLiAt, ZLi6, ZStillAt, ZTwoWay, ZLiC, ZLiG, ZLiB. Conditions: as each law says.
-/
import Derived.Test.YtidkmhokolknbaaGreatDoorZMLiP
import Derived.Test.YtidkmhokolknbaaGreatDoorZMLiA
import Derived.Test.YtidkmhokolknbaaGreatDoorZFlat
import Derived.Lib.LazyBuf
import Derived.Test.YtidkmhokolknbaaGreatDoorZMBase
import Derived.StringKeys
import Derived.Deep.Cut
import Derived.Deep.CutRange
import Derived.Laws.OwnMore
namespace Go.Proofs.YtidkmhokolknbaaGreatDoor
open Go.RowKit Go.Maps

/-- the map that proper makes of a list -/
def findV (l : List Li.Ls) : Value → Option Value
  | .string s => (Li.find l s.data.toList).map fun k : Nat => Value.int .i64 (k : Int)
  | _ => none
theorem findV_nil : findV [] = fun _ => none := by
  funext v
  cases v <;> simp [findV, Li.find]
theorem findV_get (l : List Li.Ls) (a : List UInt8) : findV l (.string (bs a)) = (Li.find l a).map fun k : Nat => Value.int .i64 (k : Int) := by
  have e : (bs a).data.toList = a := rfl
  simp only [findV, e]
theorem find_append {l : List Li.Ls} {x : Li.Ls} {a : List UInt8} : Li.find (l ++ [x]) a = match Li.find l a with | some k => some k | none => if x.en.id = a then some l.length else none := by
  induction l with
  | nil => simp [Li.find]
  | cons y l ih =>
    rw [List.cons_append]
    unfold Li.find
    by_cases h : y.en.id = a
    · rw [if_pos h, if_pos h]
    · rw [if_neg h, if_neg h, ih]
      cases Li.find l a with
      | some k => rfl
      | none => by_cases hx : x.en.id = a <;> simp [hx]
theorem findV_step {l : List Li.Ls} {x : Li.Ls} (h : Li.find l x.en.id = none) : findV (l ++ [x]) (.string (bs x.en.id)) = some (.int .i64 (l.length : Int)) ∧ ∀ y, y ≠ .string (bs x.en.id) → findV (l ++ [x]) y = findV l y := by
  refine ⟨?_, fun y hy => ?_⟩
  · rw [findV_get, find_append, h]
    simp
  · cases y with
    | string s =>
      have hne : ¬ x.en.id = s.data.toList := fun e => hy (by rw [e]; rfl)
      unfold findV
      simp only
      rw [find_append]
      cases Li.find l s.data.toList with
      | some k => rfl
      | none => rw [if_neg hne]
    | _ => rfl

/-- so far the list is proper -/
def pTo (l : List Li.Ls) (k : Nat) : Prop := (∀ x ∈ l.take k, Li.elOk x = true) ∧ (Li.ids (l.take k)).Nodup
theorem pTo_no {l : List Li.Ls} {k : Nat} {x : Li.Ls} (hx : l[k]? = some x) (h : Li.elOk x = false) : Li.properL l = false := by
  rw [Bool.eq_false_iff]; intro e
  rw [(Li.properL_parts e).1 x (List.mem_of_getElem? hx)] at h
  cases h
theorem pTo_twice {l : List Li.Ls} {k j : Nat} {x : Li.Ls} (hx : l[k]? = some x) (h : Li.find (l.take k) x.en.id = some j) : Li.properL l = false := by
  rw [Bool.eq_false_iff]; intro e
  have hn := (Li.properL_parts e).2.1
  obtain ⟨y, h1, h2⟩ := Li.find_some h
  have hm : x.en.id ∈ Li.ids (l.take k) := by rw [← h2]; exact List.mem_map_of_mem (f := fun x : Li.Ls => x.en.id) (List.mem_of_getElem? h1)
  unfold Li.ids at hn hm
  rw [← List.take_append_drop k l, List.map_append, List.nodup_append] at hn
  refine hn.2.2 _ hm x.en.id ?_ rfl
  rw [drop_cons hx]
  simp
theorem pTo_step {l : List Li.Ls} {k : Nat} {x : Li.Ls} (hx : l[k]? = some x) (h : pTo l k) (h1 : Li.elOk x = true) (h2 : Li.find (l.take k) x.en.id = none) : pTo l (k + 1) := by
  unfold pTo
  rw [take_snoc hx]
  refine ⟨fun y hy => ?_, ?_⟩
  · rcases List.mem_append.1 hy with hy | hy
    · exact h.1 y hy
    · simp at hy; subst hy; exact h1
  · unfold Li.ids
    rw [List.map_append, List.nodup_append]
    refine ⟨h.2, by simp, fun a ha b hb e => ?_⟩
    simp at hb
    subst hb; subst e
    exact Li.find_none.1 h2 ha
theorem pTo_end {l : List Li.Ls} (h : pTo l l.length) : Li.properL l = decide (l.length ≤ 400) := by
  unfold pTo at h
  rw [List.take_length] at h
  unfold Li.properL
  rw [List.all_eq_true.2 h.1, decide_eq_true h.2]
  rfl

end Go.Proofs.YtidkmhokolknbaaGreatDoor

namespace Go.Proofs.YtidkmhokolknbaaGreatDoor
open Go.RowKit Go.Lib Go.Maps

/-- a slice of names that lie in w -/
def NmsIn (w : World) (v : Value) (ns : List Li.Nm) : Prop := ∃ l : List (Li.Nm × Value), l.map Prod.fst = ns ∧ NmsAt w v l
theorem NmsIn.below {w w' : World} {v : Value} {ns : List Li.Nm} (h : NmsIn w v ns) (hb : Below w.heap.size w w') : NmsIn w' v ns := by
  obtain ⟨l, h1, h2⟩ := h
  exact ⟨l, h1, h2.below hb⟩
theorem NmsIn.slice {w : World} {v : Value} {ns : List Li.Nm} (h : NmsIn w v ns) : ∃ a c, v = .slice a ns.length c := by
  obtain ⟨l, h1, h2⟩ := h
  obtain ⟨a, c, e, -⟩ := h2.sl
  exact ⟨a, c, by rw [e, ← h1, List.length_map]⟩
theorem NmsIn.one {w : World} {v : Value} {ns : List Li.Nm} (h : NmsIn w v ns) : v.oneCell' = true := by
  obtain ⟨a, c, rfl⟩ := h.slice
  rfl
theorem NmsIn.nil (w : World) : NmsIn w (.slice none 0 0) [] := ⟨[], rfl, SlOf.nil _ _ _, fun p hp => (by cases hp), fun p hp => (by cases hp)⟩

/-- a list that lies in w -/
structure LssAt (w : World) (v : Value) (ps : List (Li.Ls × Value)) : Prop where
  sl : SlOf w v 5 lsC ps
  nm : ∀ p ∈ ps, NmsIn w p.2 p.1.en.names
  id : ∀ p ∈ ps, p.1.en.id.length ≤ 5000
theorem LssAt.below {w w' : World} {v : Value} {ps : List (Li.Ls × Value)} (h : LssAt w v ps) (hb : Below w.heap.size w w') : LssAt w' v ps := ⟨h.sl.below hb, fun p hp => (h.nm p hp).below hb, h.id⟩
theorem LssAt.nil (w : World) : LssAt w (.slice none 0 0) [] := ⟨SlOf.nil _ _ _, fun p hp => (by cases hp), fun p hp => (by cases hp)⟩

/-- entries that lie in w -/
structure EnsAt (w : World) (v : Value) (ps : List (Li.En × Value)) : Prop where
  sl : SlOf w v 2 enC ps
  nm : ∀ p ∈ ps, NmsIn w p.2 p.1.names
  id : ∀ p ∈ ps, p.1.id.length ≤ 5000
theorem EnsAt.below {w w' : World} {v : Value} {ps : List (Li.En × Value)} (h : EnsAt w v ps) (hb : Below w.heap.size w w') : EnsAt w' v ps := ⟨h.sl.below hb, fun p hp => (h.nm p hp).below hb, h.id⟩
theorem EnsAt.nil (w : World) : EnsAt w (.slice none 0 0) [] := ⟨SlOf.nil _ _ _, fun p hp => (by cases hp), fun p hp => (by cases hp)⟩

theorem flat_set5 {l : List (Li.Ls × Value)} {k : Nat} (hk : k < l.length) (q : Li.Ls × Value) :
    (((((l.flatMap lsC).set (k * 5) (.string (bs q.1.en.id))).set (k * 5 + 1) q.2).set (k * 5 + 2) (.int .i64 q.1.from_)).set (k * 5 + 3) (.int .i64 q.1.to_)).set (k * 5 + 4) (.bool q.1.void) = (l.set k q).flatMap lsC := by
  induction l generalizing k with
  | nil => simp at hk
  | cons x l ih =>
    cases k with
    | zero => simp [lsC]
    | succ k =>
      have h2 := ih (k := k) (by simpa using hk)
      rw [List.set_cons_succ, List.flatMap_cons, List.flatMap_cons, ← h2]
      rw [show (k + 1) * 5 = k * 5 + 5 by omega]
      simp [lsC]

theorem ls_one (l : List (Li.Ls × Value)) (h : ∀ p ∈ l, p.2.oneCell' = true) : ∀ u ∈ l.flatMap lsC, u.oneCell' = true := by
  intro u hu
  obtain ⟨p, hp, hx⟩ := List.mem_flatMap.1 hu
  simp [lsC] at hx
  rcases hx with rfl | rfl | rfl | rfl | rfl
  · rfl
  · exact h p hp
  · rfl
  · rfl
  · rfl

theorem Tryz.infoLs : (Tryz.prog.info? 50).map (fun i => (i.zero, i.size, i.bytes)) = some (some (.agg #[.string ⟨#[]⟩, .slice none 0 0, .int .i64 0, .int .i64 0, .bool false]), 5, 64) := by kernel_rfl

/-- a slice of the call's own of these elements -/
def LsOwn (w : World) (ps : List (Li.Ls × Value)) (v : Value) (w' : World) : Prop := w'.ownsRow w.heap.size 50 5 v ps.length (ps.flatMap lsC) ∧ Below w.heap.size w w'
def CloneL (ps : List (Li.Ls × Value)) (w : World) (e : Ending) (w' : World) : Prop := ∃ v, e = .returned v ∧ LsOwn w ps v w'

set_option maxRecDepth 100000 in
set_option maxHeartbeats 1000000 in
theorem cloneL_any (ps : List (Li.Ls × Value)) (v : Value) (w : World) (h : SlOf w v 5 lsC ps) (h1 : ∀ p ∈ ps, p.2.oneCell' = true) (hl : ps.length ≤ 1000000) : Calls Tryz.prog 38 #[v] w (CloneL ps w) := by
  obtain ⟨i0, hi, hz0, hz1, hz2⟩ := info_parts Tryz.infoLs
  obtain ⟨a, cap, rfl, k1, k2, h3⟩ := h
  have hnl := _root_.Go.run_eql_slice_nil (P := Tryz.prog) w 22 50 a ps.length cap Tryz.underlying22
  have HO := hid (ls_one ps h1)
  clear h1
  cases a with
  | some ad =>
    have HC := hid (show ∀ j u, (ps.flatMap lsC)[j]? = some u → (w.alloc (.cells #[] 50)).cell? (ad.add j) = some u by
      by_cases h0 : 0 < ps.length
      · obtain ⟨g, o, e, hr⟩ := h3 h0
        cases e
        exact flatCells (cells := lsC) (sz := 5) (fun x => rfl) (hr.below ((Below.refl _ w).alloc (Nat.le_refl _) (.cells #[] 50)))
      · have : ps = [] := List.length_eq_zero_iff.1 (by omega)
        subst this
        intro j u hu
        simp at hu)
    have hown : (w.alloc (.cells #[] 50)).ownsRow w.heap.size 50 5 (.slice (some ⟨w.heap.size, 0, none⟩) 0 0) 0 [] := World.ownsRow_made w #[] 0 (Nat.le_refl _) (by unfold maxLen; omega) rfl
    have hb : Below w.heap.size w (w.alloc (.cells #[] 50)) := (Below.refl _ w).alloc (Nat.le_refl _) _
    have HL := hid (flatLen (cells := lsC) (sz := 5) ps (fun x => rfl))
    rw [show (some ad).isNone = false from rfl] at hnl
    clear h3
    go_enter Tryz.func38, Tryz.ntmps38
    go_wp2_with (at_builtin; refine wpList_append_own _ rfl _ _ 22 rfl w.heap.size 50 i0 (.agg #[.string ⟨#[]⟩, .slice none 0 0, .int .i64 0, .int .i64 0, .bool false]) 5 64 Tryz.underlying22 hi hz0 hz1 hz2 rfl (by decide) _ _ _ rfl hown ad ps.length cap (ps.flatMap lsC) rfl HL.out HC.out HO.out (by unfold maxLen; omega) (by omega) (by simp) ?_; intro v' w' ho hg _)
    go_ret
    rw [Nat.zero_add, List.nil_append] at ho
    exact ⟨v', rfl, ho, Below.appended hb hg (by simp) hown⟩
  | none =>
    rw [show (none : Option Addr).isNone = true from rfl] at hnl
    have HN := hid (show ps = [] by
      by_cases h0 : 0 < ps.length
      · obtain ⟨g, o, e, hr⟩ := h3 h0
        cases e
      · exact List.length_eq_zero_iff.1 (by omega))
    clear h3
    go_enter Tryz.func38, Tryz.ntmps38
    go_wp2
    go_ret
    refine ⟨_, rfl, ?_, Below.refl _ _⟩
    rw [HN.out]
    exact World.ownsRow_nil _ _ _ _

/-- what is the call's own reads as a list -/
theorem LsOwn.at_ {w w' : World} {ps : List (Li.Ls × Value)} {v : Value} (h : LsOwn w ps v w') (hn : ∀ p ∈ ps, NmsIn w' p.2 p.1.en.names) (hi : ∀ p ∈ ps, p.1.en.id.length ≤ 5000) : LssAt w' v ps := ⟨SlOf.own h.1 (fun _ _ => rfl), hn, hi⟩

end Go.Proofs.YtidkmhokolknbaaGreatDoor

namespace Go.Proofs.YtidkmhokolknbaaGreatDoor
open Go.RowKit Go.Lib Go.Maps

theorem str_keyed : Keyed Tryz.prog 9 := string_keyed Tryz.underlying9
theorem str_key {s : ByteArray} (hs : s.size ≤ maxLen) : keyOf Tryz.prog 9 (.string s) = some (.string s.data.toList) := Go.WideMaps.keyOf_string_mk Tryz.underlying9 hs
theorem zero_int (w : World) : (zeroValue 3).run Tryz.prog w = .ok (.int .i64 0) w := by kernel_rfl

/-- what proper ends in -/
def PropP (L : List Li.Ls) (w : World) (e : Ending) (w' : World) : Prop :=
  Below w.heap.size w w' ∧ ∃ m, e = .returned (.tuple #[m, .bool (Li.properL L)]) ∧ (Li.properL L = true → ∃ b, m = .map (some b) ∧ w.heap.size ≤ b ∧ MapF w' Tryz.prog 9 b L.length (findV L))

/-- what stands there in a round of proper -/
structure PW (W1 wr : World) (mb k : Nat) (L : List Li.Ls) : Prop where
  map : MapF wr Tryz.prog 9 mb k (findV (L.take k))
  tch : Tch (fun x => x = mb) W1 wr

/-- an element's five cells in its box -/
structure LsBox (w W : World) (id : List UInt8) (v : Value) (fr tt : Int) (vd : Bool) : Prop where
  c0 : W.cell? ⟨w.heap.size, 0, none⟩ = some (.string (bs id))
  c1 : W.cell? ⟨w.heap.size, 1, none⟩ = some v
  c2 : W.cell? ⟨w.heap.size, 2, none⟩ = some (.int .i64 fr)
  c3 : W.cell? ⟨w.heap.size, 3, none⟩ = some (.int .i64 tt)
  c4 : W.cell? ⟨w.heap.size, 4, none⟩ = some (.bool vd)
  lt : w.heap.size < W.heap.size
  below : Below w.heap.size w W
theorem LsBox.new {w W : World} {id : List UInt8} {v : Value} {fr tt : Int} {vd : Bool} (h : W = w.alloc (.cells #[.string (bs id), v, .int .i64 fr, .int .i64 tt, .bool vd] 50)) : LsBox w W id v fr tt vd := by
  subst h
  exact ⟨by rw [World.cell?_alloc_at _ _ _ _ rfl]; rfl, by rw [World.cell?_alloc_at _ _ _ _ rfl]; rfl, by rw [World.cell?_alloc_at _ _ _ _ rfl]; rfl, by rw [World.cell?_alloc_at _ _ _ _ rfl]; rfl, by rw [World.cell?_alloc_at _ _ _ _ rfl]; rfl, by rw [World.size_alloc]; omega, (Below.refl _ w).alloc (Nat.le_refl _) _⟩
theorem LsBox.step {w W W' : World} {id : List UInt8} {v : Value} {fr tt : Int} {vd : Bool} (h : LsBox w W id v fr tt vd) (hb : Below W.heap.size W W') : LsBox w W' id v fr tt vd :=
  ⟨(hb.cell (p := ⟨w.heap.size, 0, none⟩) h.lt).trans h.c0, (hb.cell (p := ⟨w.heap.size, 1, none⟩) h.lt).trans h.c1, (hb.cell (p := ⟨w.heap.size, 2, none⟩) h.lt).trans h.c2, (hb.cell (p := ⟨w.heap.size, 3, none⟩) h.lt).trans h.c3, (hb.cell (p := ⟨w.heap.size, 4, none⟩) h.lt).trans h.c4, Nat.lt_of_lt_of_le h.lt hb.size, Below.step h.below hb⟩

/-- list.Proper at names somewhere -/
theorem proper_in (id : List UInt8) (ns : List Li.Nm) (v : Value) (w : World) (h : NmsIn w v ns) (hs : id.length ≤ 5000) (hT : Tabs w) :
    Calls Tryz.prog 22 #[.agg #[.string (bs id), v]] w (Gives (.bool (Li.proper ⟨id, ns⟩)) w) := by
  obtain ⟨l, rfl, h⟩ := h
  exact proper_any id l v w h hs hT

set_option maxRecDepth 100000 in
set_option maxHeartbeats 4000000 in
theorem properL_any (ps : List (Li.Ls × Value)) (v : Value) (w : World) (h : LssAt w v ps) (hd : ps.length ≤ 5000) (hA : Tabs w) (hT : Tab10 w) :
    Calls Tryz.prog 36 #[v] w (PropP (ps.map Prod.fst) w) := by
  have hmm := @run_makeMap Tryz.prog
  have HLS := hid h
  have HAA := hid hA
  have HTT := hid hT
  obtain ⟨mb, hmb⟩ : ∃ mb, mb = w.heap.size := ⟨_, rfl⟩
  obtain ⟨W1, hW1⟩ : ∃ W1, W1 = w.alloc (.map #[] 0) := ⟨_, rfl⟩
  have hb1 : Below w.heap.size w W1 := by rw [hW1]; exact (Below.refl _ w).alloc (Nat.le_refl _) _
  have hM : MapF W1 Tryz.prog 9 mb 0 (findV []) := by rw [hW1, findV_nil, hmb]; exact MapF.made w _ _
  obtain ⟨L, hL⟩ : ∃ L, L = ps.map Prod.fst := ⟨_, rfl⟩
  have hll : L.length = ps.length := by rw [hL, List.length_map]
  have HPW : Hid (PW W1 W1 mb 0 L) := ⟨hM, Tch.refl _ _⟩
  have HBL : Hid (∀ wr, Tch (fun x => x = mb) W1 wr → Below w.heap.size w wr) := fun wr ht => hb1.trans (ht.below hb1.size (fun k e => by have e' : k = mb := e; omega))
  have HMB := hid hmb
  have HL := hid hL
  obtain ⟨⟨va, cap, rfl, k1, k2, -⟩, -, -⟩ := h
  have hl1 : ps.length ≤ 9223372036854775807 := by omega
  rw [← hL]
  clear k1 k2 hA hT hb1 hM hL
  go_enter Tryz.func36, Tryz.ntmps36
  go_wp2_with fail
  rw [← hW1, ← hmb]
  clear hW1 hmb
  go_loopw [12] (fun iv wr => ∃ k : Nat, k ≤ ps.length ∧ iv = .int .i64 k ∧ Hid (pTo L k) ∧ Hid (PW W1 wr mb k L)) (fun iv _ => ps.length - (RowKit.intOf iv).toNat)
  case atStart => exact ⟨0, Nat.zero_le _, rfl, by simp [Hid, pTo, Li.ids], HPW⟩
  case round =>
    obtain ⟨k, hk, rfl, HV, HW⟩ := hrel
    have HBR := hid (HBL.out _ HW.out.tch)
    by_cases hlt : k < ps.length
    · obtain ⟨q, hq⟩ : ∃ q, ps[k]? = some q := ⟨_, List.getElem?_eq_getElem hlt⟩
      have hqm := List.mem_of_getElem? hq
      have hLk : L[k]? = some q.1 := by rw [HL.out, List.getElem?_map, hq]; rfl
      have hnm := HLS.out.nm q hqm
      have hidl := HLS.out.id q hqm
      obtain ⟨na, nc, hv⟩ := hnm.slice
      obtain ⟨g, o, rfl, hr⟩ : ∃ g o, va = some ⟨g, o, none⟩ ∧ RowOf wr g o 5 lsC ps := by
        obtain ⟨a', cap', ev, -, -, hr⟩ := HLS.out.sl.below HBR.out
        cases ev
        exact hr (by omega)
      have hc := hr.2 k q hq
      have e0 := hc 0 _ rfl
      have e1 := hc 1 _ rfl
      have e2 := hc 2 _ rfl
      have e3 := hc 3 _ rfl
      have e4 := hc 4 _ rfl
      have hg := hr.1
      clear hc hr hq hqm
      obtain ⟨⟨⟨id, ns⟩, fr, tt, vd⟩, u⟩ := q
      simp only at hnm hidl hv e0 e1 e2 e3 e4 hLk
      subst hv
      rw [Nat.add_zero] at e0
      have hk0 : (0 : Int) ≤ (k : Int) := by omega
      have hk1 : (k : Int) < (ps.length : Int) := by omega
      have HK := hid hLk
      have hnl : (bs id).size ≤ maxLen := by rw [bs_len]; unfold maxLen; omega
      obtain ⟨W5, hW5⟩ : ∃ W5, W5 = wr.alloc (.cells #[.string (bs id), .slice na ns.length nc, .int .i64 fr, .int .i64 tt, .bool vd] 50) := ⟨_, rfl⟩
      have HX := hid (LsBox.new hW5)
      have hB5 := HX.out.below
      have HB5 := hid hB5
      have HM5 := hid (HW.out.map.below hB5)
      have HNM5 := hid (hnm.below (Below.step HBR.out hB5))
      have HID := hid hidl
      obtain ⟨ti, tw, HTW, hlk⟩ : ∃ (ti : Int) (tw : Bool), Hid ((Li.find (L.take k) id).isSome = tw) ∧ (Instr.lookup 61 (.map (some mb)) (.string (bs id)) true).run Tryz.prog W5 = .ok (.tuple #[.int .i64 ti, .bool tw]) W5 := by
        have h1 := HM5.out.getOk str_keyed Tryz.underlying61 (zero_int W5) (str_key hnl)
        rw [findV_get] at h1
        cases hf : Li.find (L.take k) id with
        | none => rw [hf] at h1; exact ⟨0, false, rfl, h1⟩
        | some j => rw [hf] at h1; exact ⟨j, true, rfl, h1⟩
      obtain ⟨x, hx⟩ : ∃ x, x = (⟨⟨id, ns⟩, fr, tt, vd⟩ : Li.Ls) := ⟨_, rfl⟩
      rw [← hx] at HK
      have HXE := hid (show Li.elOk x = (Li.proper ⟨id, ns⟩ && Li.inst fr && (decide (tt = -1) || (Li.inst tt && decide (fr < tt)))) by rw [hx]; rfl)
      have HXI := hid (show x.en.id = id by rw [hx])
      clear hLk hnm hidl hx hB5
      go_upto_region 5 with (fail)
      rw [← hW5]
      clear hW5 e0 e1 e2 e3 e4
      obtain ⟨c0, c1, c2, c3, c4, z5, -⟩ := HX.out
      go_upto_region 6 with (fail)
      go_cut [55, 12] from 12 to 61 (fun v55 v12 wx => v55 = .bool (tw || !Li.elOk x) ∧ v12 = .int .i64 k ∧ Below W5.heap.size W5 wx)
      case first =>
        cases tw with
        | true =>
          go_wp2_with fail
          go_meet
          case rel => exact ⟨rfl, rfl, Below.refl _ _⟩
        | false =>
          have HP := hid (proper_in id ns _ W5 HNM5.out HID.out (HAA.out.below (Below.step HBR.out HB5.out)))
          cases hp : Li.proper ⟨id, ns⟩ with
          | false =>
            have HE := hid (show true = (false || !Li.elOk x) by rw [HXE.out, hp]; rfl)
            rw [hp] at HP
            clear hp
            go_wp2_with fail
            refine (HP.out).mono ?_
            rintro e w6 ⟨rfl, hb6⟩
            have HB6 := hid hb6
            clear hb6
            go_wp2_with fail
            go_meet
            case rel => exact ⟨congrArg Value.bool HE.out, rfl, HB6.out⟩
          | true =>
            rw [hp] at HP HXE
            clear hp
            go_wp2_with fail
            refine (HP.out).mono ?_
            rintro e w6 ⟨rfl, hb6⟩
            have HB6 := hid hb6
            have HX6 := hid (HX.out.step hb6)
            have HI := hid (listInst_any fr w6 (HTT.out.below (Below.step HBR.out (Below.step HB5.out hb6))))
            clear hb6 c0 c1 c2 c3 c4 z5
            obtain ⟨c0, c1, c2, c3, c4, z5, -⟩ := HX6.out
            cases hi : Li.inst fr with
            | false =>
              have HE := hid (show true = (false || !Li.elOk x) by rw [HXE.out, hi]; rfl)
              rw [hi] at HI
              clear hi
              go_wp2_with fail
              refine (HI.out).mono ?_
              rintro e w7 ⟨rfl, hb7⟩
              have HB7 := hid (Below.step HB6.out hb7)
              clear hb7
              go_wp2_with fail
              go_meet
              case rel => exact ⟨congrArg Value.bool HE.out, rfl, HB7.out⟩
            | true =>
              rw [hi] at HI HXE
              clear hi
              go_wp2_with fail
              refine (HI.out).mono ?_
              rintro e w7 ⟨rfl, hb7⟩
              have HB7 := hid (Below.step HB6.out hb7)
              have HX7 := hid (HX6.out.step hb7)
              have HI2 := hid (listInst_any tt w7 (HTT.out.below (Below.step HBR.out (Below.step HB5.out (Below.step HB6.out hb7)))))
              clear hb7 c0 c1 c2 c3 c4 z5
              obtain ⟨c0, c1, c2, c3, c4, z5, -⟩ := HX7.out
              by_cases ht : tt = -1
              · have HE := hid (show false = (false || !Li.elOk x) by rw [HXE.out, decide_eq_true ht]; rfl)
                have t1 : (tt != -1) = false := by rw [ht]; rfl
                clear ht
                go_wp2_with fail
                go_meet
                case rel => exact ⟨congrArg Value.bool HE.out, rfl, HB7.out⟩
              · have t1 : (tt != -1) = true := by simpa using ht
                rw [decide_eq_false ht] at HXE
                clear ht
                cases hj : Li.inst tt with
                | false =>
                  have HE := hid (show true = (false || !Li.elOk x) by rw [HXE.out, hj]; rfl)
                  rw [hj] at HI2
                  clear hj
                  go_wp2_with fail
                  refine (HI2.out).mono ?_
                  rintro e w8 ⟨rfl, hb8⟩
                  have HB8 := hid (Below.step HB7.out hb8)
                  clear hb8
                  go_wp2_with fail
                  go_meet
                  case rel => exact ⟨congrArg Value.bool HE.out, rfl, HB8.out⟩
                | true =>
                  have HE := hid (show decide (tt ≤ fr) = (false || !Li.elOk x) by
                    rw [HXE.out, hj]
                    by_cases hle : tt ≤ fr
                    · rw [decide_eq_true hle, decide_eq_false (by omega)]; rfl
                    · rw [decide_eq_false hle, decide_eq_true (by omega)]; rfl)
                  rw [hj] at HI2
                  clear hj
                  go_wp2_with fail
                  refine (HI2.out).mono ?_
                  rintro e w8 ⟨rfl, hb8⟩
                  have HB8 := hid (Below.step HB7.out hb8)
                  have HX8 := hid (HX7.out.step hb8)
                  clear hb8 c0 c1 c2 c3 c4 z5
                  obtain ⟨c0, c1, c2, c3, c4, z5, -⟩ := HX8.out
                  go_wp2_with fail
                  go_meet
                  case rel => exact ⟨congrArg Value.bool HE.out, rfl, HB8.out⟩
      case rest =>
      obtain ⟨rfl, rfl, hwx⟩ := hcut
      rename World => wx
      have HWX := hid hwx
      have HBX := hid (Below.step HBR.out (Below.step HB5.out hwx))
      have HX9 := hid (HX.out.step hwx)
      clear hwx c0 c1 c2 c3 c4 z5 hlk
      obtain ⟨c0, c1, c2, c3, c4, z5, -⟩ := HX9.out
      cases htw : (tw || !Li.elOk x) with
      | true =>
        have HE := hid (show Li.properL L = false by
          cases tw with
          | true =>
            obtain ⟨j, hj⟩ := Option.isSome_iff_exists.1 HTW.out
            exact pTo_twice HK.out (by rw [HXI.out]; exact hj)
          | false => exact pTo_no HK.out (by simpa using htw))
        clear htw
        go_wp2_with fail
        go_ret2
        exact ⟨HBX.out, _, by rw [HE.out]; rfl, fun h => by rw [HE.out] at h; cases h⟩
      | false =>
        have h2 : tw = false ∧ Li.elOk x = true := by simpa using htw
        have hfn : Li.find (L.take k) x.en.id = none := by
          have := HTW.out
          rw [h2.1] at this
          rw [HXI.out]
          exact Option.isNone_iff_eq_none.1 (by simpa using this)
        have htk : (L.take k).length = k := by rw [List.length_take]; omega
        have hst := findV_step hfn
        rw [htk, HXI.out] at hst
        obtain ⟨W7, hput, hM7, hg7⟩ := (HM5.out.below HWX.out).put str_keyed Tryz.underlying61 (by unfold maxLen; omega) (str_key hnl) hst.1 hst.2
        have HPW7 := hid (show PW W1 W7 mb (k + 1) L from ⟨by rw [take_snoc HK.out]; exact hM7, ((HW.out.tch.step HB5.out).step HWX.out).grown hg7 (fun r e => by cases e; exact .inl rfl)⟩)
        have HPS := hid (pTo_step HK.out HV.out h2.2 hfn)
        clear htw h2 hfn htk hst hM7 hg7
        go_wp2_with fail
        go_roundw
        case rel => exact ⟨k + 1, by omega, by go_num, HPS.out, HPW7.out⟩
        case measure => simp [RowKit.intOf]; omega
    · have hke : k = L.length := by omega
      have HE := hid (show Li.properL L = decide ((L.length : Int) ≤ 400) by
        have h1 := HV.out
        rw [hke] at h1
        rw [pTo_end h1]
        exact decide_eq_decide.2 (by omega))
      have HM := hid (show MapF wr Tryz.prog 9 mb L.length (findV L) from by
        have h1 := HW.out.map
        rw [hke, List.take_length] at h1
        exact h1)
      rw [hll] at HE
      clear hke
      go_wp2_with fail
      go_ret2
      exact ⟨HBR.out, _, by rw [HE.out]; rfl, fun _ => ⟨mb, rfl, by rw [HMB.out]; exact Nat.le_refl _, HM.out⟩⟩

end Go.Proofs.YtidkmhokolknbaaGreatDoor

namespace Go.Proofs.YtidkmhokolknbaaGreatDoor
open Go.RowKit

/-- all that was there is as it was -/
def StillAt (A : World) (_ : Array Bool) (X : World) : Prop := Below A.heap.size A X
theorem AtS.still {md : Region.Mode} {ops : Array Oper} {A X : World} {i : Nat} (h : AtS md ops (StillAt A) i X) : Below A.heap.size A X := by
  obtain ⟨_, _, _, h⟩ := h
  exact h

/-- one whose guard is false is taken first -/
theorem wpAnyS_skip {P : Program} {ops : Array Oper} {Q : Exit → Act → World → Prop} {md : Region.Mode} {S : Array Bool → World → Prop} {i : Nat} {oi : Oper} {fuel : Nat} {listed : Array Bool} {a : Act} {w : World} (hi : ops[i]? = some oi)
    (hs : Region.noSelect ops = true) (hf : Region.free md ops listed i = true) (hr : (Region.ready md ops listed).contains i = true)
    (hQ : ∀ c a w, Q (.panic c) (a.put oi.dst undef) w → Q (.panic c) a w) (hSi : ∀ listed w, S (listed.setIfInBounds i true) w ↔ S listed w) (hc : Closed md ops listed)
    (hw : Region.wanted oi (yielded ops a.tmps) = false) (hS : S listed w)
    (h : Closed md ops (listed.setIfInBounds i true) → S (listed.setIfInBounds i true) w → wpAnyS P md ops Q S fuel (listed.setIfInBounds i true) (a.put oi.dst undef) w) : wpAnyS P md ops Q S (fuel + 1) listed a w :=
  wpAnyS_first hi (Region.noSelect_spec hs) hQ hSi fuel listed a w hc (Region.free_spec hi hf) (by simpa using hr) (.inr ⟨hw, rfl⟩) hS (h (closed_step hc (by simpa using hr)) ((hSi _ _).2 hS))

end Go.Proofs.YtidkmhokolknbaaGreatDoor

namespace Go.Proofs.YtidkmhokolknbaaGreatDoor
open Go.RowKit

/-- two that may come up -/
theorem wpAnyS_two {P : Program} {ops : Array Oper} {Q : Exit → Act → World → Prop} {md : Region.Mode} {S : Array Bool → World → Prop} {fuel : Nat} {listed : Array Bool} {a : Act} {w : World} {i k : Nat} {oi ok : Oper}
    (hi : ops[i]? = some oi) (hk : ops[k]? = some ok) (hr : Region.ready md ops listed = [i, k]) (hwi : Region.wanted oi (yielded ops a.tmps) = true) (hwk : Region.wanted ok (yielded ops a.tmps) = true) (hc : Closed md ops listed)
    (h1 : ∀ K' : Act → World → Prop, Shut (∀ a w, S (listed.setIfInBounds i true) w → (Closed md ops (listed.setIfInBounds i true) → wpAnyS P md ops Q S fuel (listed.setIfInBounds i true) a w) → K' a w) → Oper.wp P oi a w K' Q)
    (h2 : ∀ K' : Act → World → Prop, Shut (∀ a w, S (listed.setIfInBounds k true) w → (Closed md ops (listed.setIfInBounds k true) → wpAnyS P md ops Q S fuel (listed.setIfInBounds k true) a w) → K' a w) → Oper.wp P ok a w K' Q) :
    wpAnyS P md ops Q S (fuel + 1) listed a w := by
  refine ⟨fun h0 => (by rw [hr] at h0; cases h0), fun j hj => ?_⟩
  have hj' := hj
  rw [hr] at hj'
  have hcases : j = i ∨ j = k := by simpa using hj'
  rcases hcases with rfl | rfl
  · refine wpOp_step hi (fun K' hK => ?_)
    rw [if_pos hwi]
    exact h1 K' (fun a w hS hW => hK a w ⟨hS, hW (closed_step hc hj)⟩)
  · refine wpOp_step hk (fun K' hK => ?_)
    rw [if_pos hwk]
    exact h2 K' (fun a w hS hW => hK a w ⟨hS, hW (closed_step hc hj)⟩)

/-- what holds behind each operation may be taken stronger from here on -/
theorem wpAnyS_more {P : Program} {ops : Array Oper} {Q : Exit → Act → World → Prop} {md : Region.Mode} {S S2 : Array Bool → World → Prop} (hS : ∀ l w, S2 l w → S l w) : ∀ (fuel : Nat) (listed : Array Bool) (a : Act) (w : World),
    wpAnyS P md ops Q S2 fuel listed a w → wpAnyS P md ops Q S fuel listed a w
  | 0, _, _, _, h => h
  | fuel + 1, _, _, _, h => ⟨h.1, fun i hi => wpOp_mono (fun a' w' h' => ⟨hS _ _ h'.1, wpAnyS_more hS fuel _ a' w' h'.2⟩) (h.2 i hi)⟩

end Go.Proofs.YtidkmhokolknbaaGreatDoor

namespace Li

theorem apply_args {l : List Ls} {c : Ch} (h : (properL l && formed c) = false) : apply l c = ([], 1) := by unfold apply; rw [h]; rfl
theorem apply_one {l : List Ls} {c : Ch} (h : properL l = true) (hf : formed c = true) (hk : c.kind = 1) : apply l c = match find l c.id with | some _ => ([], 9) | none => if l.length = 400 then ([], 2) else (l ++ [⟨c.en, c.at_, -1, false⟩], 0) := by
  unfold apply; rw [h, hf]; simp only [Bool.and_self, if_true, hk]; cases find l c.id <;> rfl
theorem apply_none {l : List Ls} {c : Ch} (h : properL l = true) (hf : formed c = true) (hk : c.kind ≠ 1) (hn : find l c.id = none) : apply l c = ([], 11) := by
  unfold apply; rw [h, hf, hn]; simp [hk]
theorem apply_some {l : List Ls} {c : Ch} {k : Nat} {x : Ls} (h : properL l = true) (hf : formed c = true) (hk : c.kind ≠ 1) (hn : find l c.id = some k) (hx : l[k]? = some x) : apply l c = if refusal x c ≠ 0 then ([], refusal x c) else (l.set k (upd x c), 0) := by
  unfold apply; rw [h, hf, hn]; simp [hk, hx]

end Li
namespace Go.Proofs.YtidkmhokolknbaaGreatDoor
open Go.RowKit Go.Lib Go.Maps

/-- what Apply ends in: a list of the call's own, whose entries were there -/
def ApplyP (ps : List (Li.Ls × Value)) (u : Value) (c : Li.Ch) (w : World) (e : Ending) (w' : World) : Prop :=
  ∃ (v : Value) (ps' : List (Li.Ls × Value)), e = .returned (.tuple #[v, .int .i64 (Li.apply (ps.map Prod.fst) c).2]) ∧ ps'.map Prod.fst = (Li.apply (ps.map Prod.fst) c).1 ∧ w'.ownsRow w.heap.size 50 5 v ps'.length (ps'.flatMap lsC) ∧
    (∀ N : Value → Li.En → Prop, (∀ p ∈ ps, N p.2 p.1.en) → N u c.en → ∀ p ∈ ps', N p.2 p.1.en) ∧ Below w.heap.size w w'
theorem ApplyP.err {ps : List (Li.Ls × Value)} {u : Value} {c : Li.Ch} {w w' : World} {n : Int} (h : Li.apply (ps.map Prod.fst) c = ([], n)) (hb : Below w.heap.size w w') : ApplyP ps u c w (.returned (.tuple #[.slice none 0 0, .int .i64 n])) w' :=
  ⟨_, [], by rw [h], by rw [h]; rfl, World.ownsRow_nil _ _ _ _, fun _ _ _ p hp => by (cases hp), hb⟩
theorem ApplyP.lss {ps ps' : List (Li.Ls × Value)} {u v : Value} {c : Li.Ch} {w w' : World} (ho : w'.ownsRow w.heap.size 50 5 v ps'.length (ps'.flatMap lsC)) (hN : ∀ N : Value → Li.En → Prop, (∀ p ∈ ps, N p.2 p.1.en) → N u c.en → ∀ p ∈ ps', N p.2 p.1.en) (hb : Below w.heap.size w w')
    {v0 : Value} (h : LssAt w v0 ps) (hn : NmsIn w u c.en.names) (hi : c.en.id.length ≤ 5000) : LssAt w' v ps' := by
  have h1 := hN (fun v en => NmsIn w' v en.names ∧ en.id.length ≤ 5000) (fun p hp => ⟨(h.nm p hp).below hb, h.id p hp⟩) ⟨hn.below hb, hi⟩
  exact ⟨SlOf.own ho (fun _ _ => rfl), fun p hp => (h1 p hp).1, fun p hp => (h1 p hp).2⟩

/-- list.formed at names somewhere -/
theorem formed_in (kd : Int) (id eid : List UInt8) (ns : List Li.Nm) (v : Value) (at_ : Int) (w : World) (h : NmsIn w v ns) (hs : id.length ≤ 5000) (hs2 : eid.length ≤ 5000) (hA : Tabs w) (hT : Tab10 w) :
    Calls Tryz.prog 37 #[.agg #[.int .i64 kd, .string (bs id), .string (bs eid), v, .int .i64 at_]] w (Gives (.bool (Li.formed ⟨kd, id, ⟨eid, ns⟩, at_⟩)) w) := by
  obtain ⟨l, rfl, h⟩ := h
  exact formed_any kd id eid l v at_ w h hs hs2 hA hT

/-- what stands in the map -/
theorem find_look {w : World} {mb n : Nat} {L : List Li.Ls} (hM : MapF w Tryz.prog 9 mb n (findV L)) (id : List UInt8) (hnl : (bs id).size ≤ maxLen) :
    (Instr.lookup 61 (.map (some mb)) (.string (bs id)) true).run Tryz.prog w = .ok (.tuple #[.int .i64 ((Li.find L id).getD 0 : Nat), .bool (Li.find L id).isSome]) w := by
  have h1 := hM.getOk str_keyed Tryz.underlying61 (zero_int w) (str_key hnl)
  rw [findV_get] at h1
  cases hf : Li.find L id with
  | none => rw [hf] at h1; exact h1
  | some j => rw [hf] at h1; exact h1

set_option maxRecDepth 100000 in
set_option maxHeartbeats 8000000 in
theorem apply_any (kd : Int) (id eid : List UInt8) (ns : List Li.Nm) (u : Value) (at_ : Int) (ps : List (Li.Ls × Value)) (v : Value) (w : World) (h : LssAt w v ps) (hd : ps.length ≤ 5000) (hn : NmsIn w u ns) (hs : id.length ≤ 5000) (hs2 : eid.length ≤ 5000) (hA : Tabs w) (hT : Tab10 w) :
    Calls Tryz.prog 14 #[v, .agg #[.int .i64 kd, .string (bs id), .string (bs eid), u, .int .i64 at_]] w (ApplyP ps u ⟨kd, id, ⟨eid, ns⟩, at_⟩ w) := by
  obtain ⟨i0, hi, hz0, hz1, hz2⟩ := info_parts Tryz.infoLs
  have HLS := hid h
  have HNS := hid hn
  have HAA := hid hA
  have HTT := hid hT
  obtain ⟨na, nc, rfl⟩ := hn.slice
  obtain ⟨W1, hW1⟩ : ∃ W1, W1 = w.alloc (.cells #[.int .i64 kd, .string (bs id), .string (bs eid), .slice na ns.length nc, .int .i64 at_] 27) := ⟨_, rfl⟩
  have HX := hid (ChBox.new hW1)
  have hb1 := HX.out.below
  have HB1 := hid hb1
  have HP := hid (properL_any ps v W1 (h.below hb1) hd (hA.below hb1) (hT.below hb1))
  obtain ⟨⟨va, cap, rfl, k1, k2, -⟩, -, -⟩ := h
  have hl1 : ps.length ≤ 9223372036854775807 := by omega
  have hl5 : ps.length ≤ 5000 := hd
  obtain ⟨L, hL⟩ : ∃ L, L = ps.map Prod.fst := ⟨_, rfl⟩
  have hll : L.length = ps.length := by rw [hL, List.length_map]
  have HL := hid hL
  rw [← hL] at HP
  obtain ⟨c, hcc⟩ : ∃ c, c = (⟨kd, id, ⟨eid, ns⟩, at_⟩ : Li.Ch) := ⟨_, rfl⟩
  rw [← hcc]
  have HCC := hid hcc
  have HAL : Hid (∀ r, Li.apply L c = r → Li.apply (ps.map Prod.fst) c = r) := fun r h => by rw [← HL.out]; exact h
  have hnl : (bs id).size ≤ maxLen := by rw [bs_len]; unfold maxLen; omega
  have HONE := hid (fun p hp => (HLS.out.nm p hp).one)
  clear k1 k2 hA hT hb1 hL hn
  go_enter Tryz.func14, Tryz.ntmps14
  go_upto_region 1 with (fail)
  rw [← hW1]
  clear hW1
  go_wp2_with fail
  refine (HP.out).mono ?_
  rintro e w2 ⟨hb2, m, rfl, hm⟩
  have HB2 := hid (Below.step HB1.out hb2)
  have HX2 := hid (HX.out.step hb2)
  have HM := hid hm
  clear hb2 hm
  cases hp : Li.properL L with
  | false =>
    have HE := hid (Li.apply_args (c := c) (by rw [hp]; rfl))
    clear hp
    go_wp2_with fail
    go_ret2
    exact ApplyP.err (HAL.out _ HE.out) HB2.out
  | true =>
    obtain ⟨mb, rfl, -, hM2⟩ := HM.out hp
    have HPR := hid hp
    have HM2 := hid hM2
    have HF := hid (formed_in kd id eid ns _ at_ w2 (HNS.out.below HB2.out) hs hs2 (HAA.out.below HB2.out) (HTT.out.below HB2.out))
    rw [← hcc] at HF
    clear hp hM2
    obtain ⟨c0, c1, c2, c3, c4, z1, -⟩ := HX2.out
    cases hf : Li.formed c with
    | false =>
      have HE := hid (Li.apply_args (l := L) (c := c) (by rw [hf, Bool.and_false]))
      rw [hf] at HF
      clear hf
      go_wp2_with fail
      refine (HF.out).mono ?_
      rintro e w3 ⟨rfl, hb3⟩
      have HB3 := hid (Below.step HB2.out hb3)
      clear hb3
      go_wp2_with fail
      go_ret2
      exact ApplyP.err (HAL.out _ HE.out) HB3.out
    | true =>
      have HFO := hid hf
      rw [hf] at HF
      clear hf
      go_wp2_with fail
      refine (HF.out).mono ?_
      rintro e w3 ⟨rfl, hb3⟩
      have HB3 := hid (Below.step HB2.out hb3)
      have HX3 := hid (HX2.out.step hb3)
      have hlk := find_look (HM2.out.below hb3) id hnl
      clear hb3 c0 c1 c2 c3 c4 z1
      obtain ⟨c0, c1, c2, c3, c4, z1, -⟩ := HX3.out
      have hckd : c.kind = kd := by rw [hcc]
      have hcid : c.id = id := by rw [hcc]
      have hcat : c.at_ = at_ := by rw [hcc]
      have hcen : c.en = ⟨eid, ns⟩ := by rw [hcc]
      have HC := hid (And.intro hckd (And.intro hcid (And.intro hcat hcen)))
      have hkr := (Li.formed_parts HFO.out).2
      rw [hckd] at hkr
      have hk1 := hkr.1
      have hk4 := hkr.2.1
      clear hkr hckd hcid hcat hcen hcc
      by_cases hone : kd = 1
      · subst hone
        cases hfi : Li.find L id with
        | some j =>
          have HE := hid (show Li.apply L c = ([], 9) by
            rw [Li.apply_one HPR.out HFO.out HC.out.1, HC.out.2.1, hfi])
          rw [hfi] at hlk
          simp only [Option.getD_some, Option.isSome_some] at hlk
          clear hfi
          go_wp2_with fail
          go_ret2
          exact ApplyP.err (HAL.out _ HE.out) HB3.out
        | none =>
          rw [hfi] at hlk
          simp only [Option.getD_none, Option.isSome_none] at hlk
          by_cases h400 : ps.length = 400
          · have HE := hid (show Li.apply L c = ([], 2) by
              rw [Li.apply_one HPR.out HFO.out HC.out.1, HC.out.2.1, hfi]
              simp only
              rw [if_pos (hll.trans h400)])
            have h4 : ((ps.length : Int) == 400) = true := by rw [beq_iff_eq]; omega
            clear hfi h400
            go_wp2_with fail
            go_ret2
            exact ApplyP.err (HAL.out _ HE.out) HB3.out
          · have HE := hid (show Li.apply L c = (L ++ [⟨c.en, c.at_, -1, false⟩], 0) by
              rw [Li.apply_one HPR.out HFO.out HC.out.1, HC.out.2.1, hfi]
              simp only
              rw [if_neg (fun e => h400 (hll.symm.trans e))])
            have h4 : ((ps.length : Int) == 400) = false := by rw [beq_eq_false_iff_ne]; omega
            clear hfi h400
            go_upto_region 10 with (fail)
            refine wp_heldS (S := StillAt w3) (by kernel_rfl) ?_
            simp only [List.size_toArray, List.length_cons, List.length_nil, Nat.reduceAdd]
            intro hc
            have S0 : StillAt w3 (Array.replicate 11 false) w3.drew := (Below.refl _ _).drew
            refine wpAnyS_take (i := 0) (v := .slice va ps.length cap) rfl (by kernel_rfl) (by kernel_rfl) (by kernel_rfl) (fun _ _ _ h => h) (fun _ _ => Iff.rfl) hc (by first | rfl | simp [Region.wanted]) (fun wx hx => ?_) S0 (fun hc S0 => ?_)
            · go_simp
            try simp only [List.getElem_toArray, List.getElem_cons_zero, Act.put, List.setIfInBounds_toArray, List.set_cons_zero, List.set_cons_succ]
            refine wpAnyS_take (i := 2) (v := .pointer (some ⟨w.heap.size, 2, none⟩)) rfl (by kernel_rfl) (by kernel_rfl) (by kernel_rfl) (fun _ _ _ h => h) (fun _ _ => Iff.rfl) hc (by first | rfl | simp [Region.wanted]) (fun wx hx => ?_) S0 (fun hc S0 => ?_)
            · go_simp
            try simp only [List.getElem_toArray, List.getElem_cons_succ, List.getElem_cons_zero, Act.put, List.setIfInBounds_toArray, List.set_cons_zero, List.set_cons_succ]
            refine wpAnyS_take (i := 3) (v := .agg #[.string (bs eid), .slice na ns.length nc]) rfl (by kernel_rfl) (by kernel_rfl) (by kernel_rfl) (fun _ _ _ h => h) (fun _ _ => Iff.rfl) hc (by first | rfl | simp [Region.wanted]) (fun wx hx => ?_) S0 (fun hc S0 => ?_)
            · have g2 := (hx.still.cell (p := ⟨w.heap.size, 2, none⟩) z1).trans c2; have g3 := (hx.still.cell (p := ⟨w.heap.size, 3, none⟩) z1).trans c3
              go_simp
            try simp only [List.getElem_toArray, List.getElem_cons_succ, List.getElem_cons_zero, Act.put, List.setIfInBounds_toArray, List.set_cons_zero, List.set_cons_succ]
            refine wpAnyS_take (i := 4) (v := .pointer (some ⟨w.heap.size, 4, none⟩)) rfl (by kernel_rfl) (by kernel_rfl) (by kernel_rfl) (fun _ _ _ h => h) (fun _ _ => Iff.rfl) hc (by first | rfl | simp [Region.wanted]) (fun wx hx => ?_) S0 (fun hc S0 => ?_)
            · go_simp
            try simp only [List.getElem_toArray, List.getElem_cons_succ, List.getElem_cons_zero, Act.put, List.setIfInBounds_toArray, List.set_cons_zero, List.set_cons_succ]
            refine wpAnyS_take (i := 5) (v := .int .i64 at_) rfl (by kernel_rfl) (by kernel_rfl) (by kernel_rfl) (fun _ _ _ h => h) (fun _ _ => Iff.rfl) hc (by first | rfl | simp [Region.wanted]) (fun wx hx => ?_) S0 (fun hc S0 => ?_)
            · have g4 := (hx.still.cell (p := ⟨w.heap.size, 4, none⟩) z1).trans c4
              go_simp
            try simp only [List.getElem_toArray, List.getElem_cons_succ, List.getElem_cons_zero, Act.put, List.setIfInBounds_toArray, List.set_cons_zero, List.set_cons_succ]
            refine wpAnyS_take (i := 6) (v := .agg #[.string (bs eid), .slice na ns.length nc, .int .i64 at_, .int .i64 (-1), .bool false]) rfl (by kernel_rfl) (by kernel_rfl) (by kernel_rfl) (fun _ _ _ h => h) (fun _ _ => Iff.rfl) hc (by first | rfl | simp [Region.wanted]) (fun wx hx => ?_) S0 (fun hc S0 => ?_)
            · go_simp
            try simp only [List.getElem_toArray, List.getElem_cons_succ, List.getElem_cons_zero, Act.put, List.setIfInBounds_toArray, List.set_cons_zero, List.set_cons_succ]
            refine wpAnyS_two (i := 1) (k := 7) rfl rfl (by kernel_rfl) (by rfl) (by rfl) hc (fun K' hK => ?A) (fun K' hK => ?B)
            case' A =>
              go_simp
              refine (cloneL_any ps _ w3.drew (HLS.out.sl.below (HB3.out.drew)) HONE.out (by omega)).mono ?_
              rintro e w6 ⟨vc, rfl, ho6, hb6⟩
              refine hK.out _ _ (Below.step (Below.refl _ _).drew hb6) (fun hc => ?_)
              clear hK K'
              try simp only [List.getElem_toArray, List.getElem_cons_succ, List.getElem_cons_zero, Act.put, List.setIfInBounds_toArray, List.set_cons_zero, List.set_cons_succ]
              refine wpAnyS_one (i := 7) rfl (by kernel_rfl) (by rfl) hc (fun K' hK => ?_)
              go_simp
              refine hK.out _ _ (Below.step (Below.step (Below.refl _ _).drew hb6) ((Below.refl _ w6).alloc (Nat.le_refl _) _)) (fun hc => ?_)
              clear hK K'
              try simp only [List.getElem_toArray, List.getElem_cons_succ, List.getElem_cons_zero, Act.put, List.setIfInBounds_toArray, List.set_cons_zero, List.set_cons_succ]
              obtain ⟨X, q, HX6, hX, hq⟩ : ∃ X q, Hid (X.ownsRow w3.heap.size 50 5 vc ps.length (ps.flatMap lsC) ∧ (∀ j u, ([.string (bs eid), .slice na ns.length nc, .int .i64 at_, .int .i64 (-1), .bool false] : List Value)[j]? = some u → X.cell? ((⟨q, 0, none⟩ : Addr).add j) = some u) ∧ Below w3.heap.size w3 X) ∧ X = w6.alloc (.cells #[.string (bs eid), .slice na ns.length nc, .int .i64 at_, .int .i64 (-1), .bool false] 50) ∧ q = w6.heap.size :=
                ⟨_, _, ⟨ho6.alloc _, cells_new rfl, Below.step (Below.step (Below.refl _ _).drew hb6) ((Below.refl _ w6).alloc (Nat.le_refl _) _)⟩, rfl, rfl⟩
              rw [← hX, ← hq]
              clear hX hq ho6 hb6
            case' B =>
              go_simp
              refine hK.out _ _ ((Below.refl _ w3).alloc (Nat.le_refl _) _).drew (fun hc => ?_)
              clear hK K'
              try simp only [List.getElem_toArray, List.getElem_cons_succ, List.getElem_cons_zero, Act.put, List.setIfInBounds_toArray, List.set_cons_zero, List.set_cons_succ]
              have hbl : Below w3.heap.size w3 (w3.alloc (.cells #[.string (bs eid), .slice na ns.length nc, .int .i64 at_, .int .i64 (-1), .bool false] 50)).drew := ((Below.refl _ w3).alloc (Nat.le_refl _) _).drew
              refine wpAnyS_one (i := 1) rfl (by kernel_rfl) (by rfl) hc (fun K' hK => ?_)
              go_simp
              refine (cloneL_any ps _ _ (HLS.out.sl.below (Below.step HB3.out hbl)) HONE.out (by omega)).mono ?_
              rintro e w6 ⟨vc, rfl, ho6, hb6⟩
              refine hK.out _ _ (Below.step hbl hb6) (fun hc => ?_)
              clear hK K'
              try simp only [List.getElem_toArray, List.getElem_cons_succ, List.getElem_cons_zero, Act.put, List.setIfInBounds_toArray, List.set_cons_zero, List.set_cons_succ]
              obtain ⟨X, q, HX6, hX, hq⟩ : ∃ X q, Hid (X.ownsRow w3.heap.size 50 5 vc ps.length (ps.flatMap lsC) ∧ (∀ j u, ([.string (bs eid), .slice na ns.length nc, .int .i64 at_, .int .i64 (-1), .bool false] : List Value)[j]? = some u → X.cell? ((⟨q, 0, none⟩ : Addr).add j) = some u) ∧ Below w3.heap.size w3 X) ∧ X = w6 ∧ q = w3.heap.size :=
                ⟨_, _, ⟨ownsRow_base ho6 hbl.size, fun j u hu => (hb6.cell (p := (⟨w3.heap.size, 0, none⟩ : Addr).add j) (by
                  have : ((⟨w3.heap.size, 0, none⟩ : Addr).add j).block = w3.heap.size := by unfold Addr.add; split <;> rfl
                  rw [this]; show w3.heap.size < (w3.alloc _).heap.size; rw [World.size_alloc]; omega)).trans (cells_new (w := w3) (t := 50) rfl j u hu), Below.step hbl hb6⟩, rfl, rfl⟩
              rw [← hX, ← hq]
              clear hX hq ho6 hb6 hbl
            all_goals (
              obtain ⟨hown, hcells, hbx⟩ := HX6.out
              refine wpAnyS_one (i := 8) rfl (by kernel_rfl) (by rfl) hc (fun K' hK => ?_)
              refine wp_append_own _ _ _ 22 rfl w3.heap.size 50 i0 (.agg #[.string ⟨#[]⟩, .slice none 0 0, .int .i64 0, .int .i64 0, .bool false]) 5 64 Tryz.underlying22 hi hz0 hz1 hz2 rfl (by decide) _ _ _ rfl hown ⟨q, 0, none⟩ 1 1 [.string (bs eid), .slice na ns.length nc, .int .i64 at_, .int .i64 (-1), .bool false] rfl rfl hcells (by simp [Value.oneCell']) (by unfold maxLen; omega) (by omega) hbx.size ?_
              intro v' w8 ho8 hg8 _
              have hb8 := Below.appended hbx hg8 hbx.size hown
              refine hK.out _ _ hb8 (fun hc => ?_)
              clear hK K'
              try simp only [List.getElem_toArray, List.getElem_cons_succ, List.getElem_cons_zero, Act.put, List.setIfInBounds_toArray, List.set_cons_zero, List.set_cons_succ]
              refine wpAnyS_one (i := 9) rfl (by kernel_rfl) (by rfl) hc (fun K' hK => ?_)
              go_simp
              refine hK.out _ _ hb8 (fun hc => ?_)
              clear hK K'
              try simp only [List.getElem_toArray, List.getElem_cons_succ, List.getElem_cons_zero, Act.put, List.setIfInBounds_toArray, List.set_cons_zero, List.set_cons_succ]
              refine wpAnyS_one (i := 10) rfl (by kernel_rfl) (by rfl) hc (fun K' hK => ?_)
              go_simp
              refine hK.out _ _ hb8 (fun hc => ?_)
              clear hK K'
              try simp only [List.getElem_toArray, List.getElem_cons_succ, List.getElem_cons_zero, Act.put, List.setIfInBounds_toArray, List.set_cons_zero, List.set_cons_succ]
              refine wpAnyS_done (by kernel_rfl) ?_ _
              have H8 := hid (And.intro ho8 hb8)
              clear hc S0 ho8 hg8 hb8 hown hcells hbx
              go_wp2_with fail
              go_ret2
              have HE3 := HAL.out _ HE.out
              refine ⟨_, ps ++ [(⟨⟨eid, ns⟩, at_, -1, false⟩, .slice na ns.length nc)], by rw [HE3]; rfl, ?_, ?_, fun N h1 h2 p hp => ?_, Below.step HB3.out H8.out.2⟩
              · rw [HE3, HC.out.2.2.2, HC.out.2.2.1, HL.out]
                simp
              · have h1 := ownsRow_base H8.out.1 HB3.out.size
                rw [List.length_append, List.flatMap_append]
                exact h1
              · rcases List.mem_append.1 hp with hp | hp
                · exact h1 p hp
                · simp only [List.mem_singleton] at hp
                  subst hp
                  rw [HC.out.2.2.2] at h2
                  exact h2)
      · cases hfi : Li.find L id with
        | none =>
          have HE := hid (show Li.apply L c = ([], 11) from Li.apply_none HPR.out HFO.out (by rw [HC.out.1]; exact hone) (by rw [HC.out.2.1]; exact hfi))
          rw [hfi] at hlk
          simp only [Option.getD_none, Option.isSome_none] at hlk
          have h1 : (kd == 1) = false := by rw [beq_eq_false_iff_ne]; exact hone
          clear hfi hone
          go_wp2_with fail
          go_ret2
          exact ApplyP.err (HAL.out _ HE.out) HB3.out
        | some k =>
          rw [hfi] at hlk
          simp only [Option.getD_some, Option.isSome_some] at hlk
          obtain ⟨x, hx, hxid⟩ := Li.find_some hfi
          have HE := hid (Li.apply_some HPR.out HFO.out (by rw [HC.out.1]; exact hone) (by rw [HC.out.2.1]; exact hfi) hx)
          have hk : k < ps.length := by have := (List.getElem?_eq_some_iff.1 hx).1; omega
          obtain ⟨q, hq⟩ : ∃ q, ps[k]? = some q := ⟨_, List.getElem?_eq_getElem hk⟩
          have hqx : q.1 = x := by
            rw [HL.out, List.getElem?_map, hq] at hx
            exact Option.some.inj hx
          subst hqx
          have HXI := hid hxid
          have hnm := HLS.out.nm q (List.mem_of_getElem? hq)
          obtain ⟨ma, mc, hv⟩ := hnm.slice
          obtain ⟨g, o, rfl, hr⟩ : ∃ g o, va = some ⟨g, o, none⟩ ∧ RowOf w3 g o 5 lsC ps := by
            obtain ⟨a', cap', ev, -, -, hr⟩ := HLS.out.sl.below HB3.out
            cases ev
            exact hr (by omega)
          have hc := hr.2 k q hq
          have e0 := hc 0 _ rfl
          have e1 := hc 1 _ rfl
          have e2 := hc 2 _ rfl
          have e3 := hc 3 _ rfl
          have e4 := hc 4 _ rfl
          have hg := hr.1
          have HQ := hid hq
          have HNQ := hid hnm
          have h1 : (kd == 1) = false := by rw [beq_eq_false_iff_ne]; exact hone
          have hk0 : (0 : Int) ≤ (k : Int) := by omega
          have hkl : (k : Int) < (ps.length : Int) := by omega
          clear hc hr hnm hq hx hxid hfi
          obtain ⟨⟨⟨xid, xns⟩, fr, tt, vd⟩, u⟩ := q
          simp only at hv e0 e1 e2 e3 e4 HE HXI HNQ
          subst hv
          rw [Nat.add_zero] at e0
          have HB5 := hid (fun o => Below.step HB3.out ((Below.refl _ w3).alloc (Nat.le_refl _) o))
          have hrv : Li.refusal ⟨⟨xid, xns⟩, fr, tt, vd⟩ c = if vd = true ∨ (kd = 2 ∧ tt ≠ -1) then 12 else if kd = 2 ∧ at_ ≤ fr then 14 else 0 := by
            unfold Li.refusal; rw [HC.out.1, HC.out.2.2.1]
          have HRV := hid hrv
          clear hrv
          cases vd with
          | true =>
            have HE2 := hid (show Li.apply L c = ([], 12) by rw [HE.out, HRV.out]; simp)
            clear hone
            go_wp2_with fail
            go_ret2
            exact ApplyP.err (HAL.out _ HE2.out) (HB5.out _)
          | false =>
            have : kd = 2 ∨ kd = 3 ∨ kd = 4 := by omega
            rcases this with rfl | rfl | rfl
            · by_cases ht : tt = -1
              · subst ht
                by_cases hle : at_ ≤ fr
                · have HE2 := hid (show Li.apply L c = ([], 14) by rw [HE.out, HRV.out]; simp [hle])
                  clear hone
                  go_wp2_with fail
                  go_ret2
                  exact ApplyP.err (HAL.out _ HE2.out) (HB5.out _)
                · have HE2 := hid (show Li.apply L c = (L.set k ⟨⟨xid, xns⟩, fr, at_, false⟩, 0) by
                    rw [HE.out, HRV.out]
                    simp [hle, Li.upd, HC.out.1, HC.out.2.2.1])
                  clear hone
                  go_upto_region 25 with (fail)
                  obtain ⟨W6, hW6⟩ : ∃ W6, W6 = w3.alloc (.cells #[.string (bs xid), .slice ma xns.length mc, .int .i64 fr, .int .i64 at_, .bool false] 50) := ⟨_, rfl⟩
                  rw [← hW6]
                  have HX6 := hid (LsBox.new hW6)
                  clear hW6
                  go_wp2_with fail
                  refine (cloneL_any ps _ W6 (HLS.out.sl.below (Below.step HB3.out HX6.out.below)) HONE.out (by omega)).mono ?_
                  rintro e w7 ⟨vc, rfl, ho7, hb7⟩
                  obtain ⟨g7, cap7, rfl⟩ : ∃ g cap, vc = .slice (some ⟨g, 0, none⟩) ps.length cap := by
                    rcases ho7.2 with ⟨_, h0⟩ | ⟨g, cap', cur, h0, _⟩
                    · omega
                    · exact ⟨g, cap', h0⟩
                  have hr7 : ∀ (j : Nat) (v : Value), (lsC (⟨⟨xid, xns⟩, fr, -1, false⟩, .slice ma xns.length mc))[j]? = some v → w7.cell? ⟨g7, 0 + k * 5 + j, none⟩ = some v := by
                    obtain ⟨a', cap', ev, -, -, hr⟩ := SlOf.own ho7 (fun _ _ => rfl)
                    have ev2 := (Value.slice.inj ev).1
                    obtain ⟨g, o, ea, hr⟩ := hr (by omega)
                    rw [← ev2] at ea
                    cases ea
                    exact hr.2 k _ HQ.out
                  have y0 := hr7 0 _ rfl
                  have y1 := hr7 1 _ rfl
                  have y2 := hr7 2 _ rfl
                  have y3 := hr7 3 _ rfl
                  have y4 := hr7 4 _ rfl
                  rw [Nat.zero_add, Nat.add_zero] at y0
                  rw [Nat.zero_add] at y1 y2 y3 y4
                  have hg7 : g7 < w7.heap.size := (ho7.lt g7 rfl).2
                  have f0 := ho7.frozenAt (k * 5)
                  have f1 := ho7.frozenAt (k * 5 + 1)
                  have f2 := ho7.frozenAt (k * 5 + 2)
                  have f3 := ho7.frozenAt (k * 5 + 3)
                  have f4 := ho7.frozenAt (k * 5 + 4)
                  have HO7 := hid (And.intro ho7 hb7)
                  have HX7 := hid (HX6.out.step hb7)
                  clear c0 c1 c2 c3 c4 z1 e0 e1 e2 e3 e4 ho7 hb7 hr7
                  obtain ⟨c0, c1, c2, c3, c4, z7, -⟩ := HX7.out
                  go_wp2_with fail
                  obtain ⟨W8, hW8⟩ : ∃ W8, W8 = ((((w7.setCell ⟨g7, k * 5, none⟩ (.string (bs xid))).setCell ⟨g7, k * 5 + 1, none⟩ (.slice ma xns.length mc)).setCell ⟨g7, k * 5 + 2, none⟩ (.int .i64 fr)).setCell ⟨g7, k * 5 + 3, none⟩ (.int .i64 at_)).setCell ⟨g7, k * 5 + 4, none⟩ (.bool false) := ⟨_, rfl⟩
                  rw [← hW8]
                  have H8 := hid (show W8.ownsRow W6.heap.size 50 5 (.slice (some ⟨g7, 0, none⟩) ps.length cap7) (ps.set k (⟨⟨xid, xns⟩, fr, at_, false⟩, .slice ma xns.length mc)).length ((ps.set k (⟨⟨xid, xns⟩, fr, at_, false⟩, .slice ma xns.length mc)).flatMap lsC) by
                    rw [hW8, List.length_set, ← flat_set5 hk]
                    exact (((((HO7.out.1.stored (k * 5) _).1.stored (k * 5 + 1) _).1.stored (k * 5 + 2) _).1.stored (k * 5 + 3) _).1.stored (k * 5 + 4) _).1)
                  have HB8 := hid (show Below w.heap.size w W8 by
                    have hb := Below.step (Below.step HB3.out HX6.out.below) HO7.out.2
                    have hge : w.heap.size ≤ g7 := Nat.le_trans (Below.step HB3.out HX6.out.below).size (HO7.out.1.lt g7 rfl).1
                    rw [hW8]
                    exact ((((hb.setCell (p := ⟨g7, k * 5, none⟩) hge _).setCell (p := ⟨g7, k * 5 + 1, none⟩) hge _).setCell (p := ⟨g7, k * 5 + 2, none⟩) hge _).setCell (p := ⟨g7, k * 5 + 3, none⟩) hge _).setCell (p := ⟨g7, k * 5 + 4, none⟩) hge _)
                  clear hW8
                  go_ret2
                  have HE3 := HAL.out _ HE2.out
                  refine ⟨_, _, by rw [HE3]; rfl, ?_, ownsRow_base H8.out (Below.step HB3.out HX6.out.below).size, fun N h1 h2 p hp => ?_, HB8.out⟩
                  · rw [HE3, HL.out, List.map_set]
                  · rcases List.mem_or_eq_of_mem_set hp with hp | hp
                    · exact h1 p hp
                    · subst hp
                      exact h1 (⟨⟨xid, xns⟩, fr, -1, false⟩, .slice ma xns.length mc) (List.mem_of_getElem? HQ.out)
              · have HE2 := hid (show Li.apply L c = ([], 12) by rw [HE.out, HRV.out]; simp [ht])
                have t1 : (tt != -1) = true := by rw [bne_iff_ne]; exact ht
                clear hone ht
                go_wp2_with fail
                go_ret2
                exact ApplyP.err (HAL.out _ HE2.out) (HB5.out _)
            · have HE2 := hid (show Li.apply L c = (L.set k ⟨⟨eid, ns⟩, fr, tt, false⟩, 0) by
                rw [HE.out, HRV.out]
                simp [Li.upd, HC.out.1, HC.out.2.2.2])
              clear hone
              go_upto_region 25 with (fail)
              obtain ⟨W6, hW6⟩ : ∃ W6, W6 = w3.alloc (.cells #[.string (bs eid), .slice na ns.length nc, .int .i64 fr, .int .i64 tt, .bool false] 50) := ⟨_, rfl⟩
              rw [← hW6]
              have HX6 := hid (LsBox.new hW6)
              clear hW6
              go_wp2_with fail
              refine (cloneL_any ps _ W6 (HLS.out.sl.below (Below.step HB3.out HX6.out.below)) HONE.out (by omega)).mono ?_
              rintro e w7 ⟨vc, rfl, ho7, hb7⟩
              obtain ⟨g7, cap7, rfl⟩ : ∃ g cap, vc = .slice (some ⟨g, 0, none⟩) ps.length cap := by
                rcases ho7.2 with ⟨_, h0⟩ | ⟨g, cap', cur, h0, _⟩
                · omega
                · exact ⟨g, cap', h0⟩
              have hr7 : ∀ (j : Nat) (v : Value), (lsC (⟨⟨xid, xns⟩, fr, tt, false⟩, .slice ma xns.length mc))[j]? = some v → w7.cell? ⟨g7, 0 + k * 5 + j, none⟩ = some v := by
                obtain ⟨a', cap', ev, -, -, hr⟩ := SlOf.own ho7 (fun _ _ => rfl)
                have ev2 := (Value.slice.inj ev).1
                obtain ⟨g, o, ea, hr⟩ := hr (by omega)
                rw [← ev2] at ea
                cases ea
                exact hr.2 k _ HQ.out
              have y0 := hr7 0 _ rfl
              have y1 := hr7 1 _ rfl
              have y2 := hr7 2 _ rfl
              have y3 := hr7 3 _ rfl
              have y4 := hr7 4 _ rfl
              rw [Nat.zero_add, Nat.add_zero] at y0
              rw [Nat.zero_add] at y1 y2 y3 y4
              have hg7 : g7 < w7.heap.size := (ho7.lt g7 rfl).2
              have f0 := ho7.frozenAt (k * 5)
              have f1 := ho7.frozenAt (k * 5 + 1)
              have f2 := ho7.frozenAt (k * 5 + 2)
              have f3 := ho7.frozenAt (k * 5 + 3)
              have f4 := ho7.frozenAt (k * 5 + 4)
              have HO7 := hid (And.intro ho7 hb7)
              have HX7 := hid (HX6.out.step hb7)
              clear c0 c1 c2 c3 c4 z1 e0 e1 e2 e3 e4 ho7 hb7 hr7
              obtain ⟨c0, c1, c2, c3, c4, z7, -⟩ := HX7.out
              go_wp2_with fail
              obtain ⟨W8, hW8⟩ : ∃ W8, W8 = ((((w7.setCell ⟨g7, k * 5, none⟩ (.string (bs eid))).setCell ⟨g7, k * 5 + 1, none⟩ (.slice na ns.length nc)).setCell ⟨g7, k * 5 + 2, none⟩ (.int .i64 fr)).setCell ⟨g7, k * 5 + 3, none⟩ (.int .i64 tt)).setCell ⟨g7, k * 5 + 4, none⟩ (.bool false) := ⟨_, rfl⟩
              rw [← hW8]
              have H8 := hid (show W8.ownsRow W6.heap.size 50 5 (.slice (some ⟨g7, 0, none⟩) ps.length cap7) (ps.set k (⟨⟨eid, ns⟩, fr, tt, false⟩, .slice na ns.length nc)).length ((ps.set k (⟨⟨eid, ns⟩, fr, tt, false⟩, .slice na ns.length nc)).flatMap lsC) by
                rw [hW8, List.length_set, ← flat_set5 hk]
                exact (((((HO7.out.1.stored (k * 5) _).1.stored (k * 5 + 1) _).1.stored (k * 5 + 2) _).1.stored (k * 5 + 3) _).1.stored (k * 5 + 4) _).1)
              have HB8 := hid (show Below w.heap.size w W8 by
                have hb := Below.step (Below.step HB3.out HX6.out.below) HO7.out.2
                have hge : w.heap.size ≤ g7 := Nat.le_trans (Below.step HB3.out HX6.out.below).size (HO7.out.1.lt g7 rfl).1
                rw [hW8]
                exact ((((hb.setCell (p := ⟨g7, k * 5, none⟩) hge _).setCell (p := ⟨g7, k * 5 + 1, none⟩) hge _).setCell (p := ⟨g7, k * 5 + 2, none⟩) hge _).setCell (p := ⟨g7, k * 5 + 3, none⟩) hge _).setCell (p := ⟨g7, k * 5 + 4, none⟩) hge _)
              clear hW8
              go_ret2
              have HE3 := HAL.out _ HE2.out
              refine ⟨_, _, by rw [HE3]; rfl, ?_, ownsRow_base H8.out (Below.step HB3.out HX6.out.below).size, fun N h1 h2 p hp => ?_, HB8.out⟩
              · rw [HE3, HL.out, List.map_set]
              · rcases List.mem_or_eq_of_mem_set hp with hp | hp
                · exact h1 p hp
                · subst hp
                  rw [HC.out.2.2.2] at h2
                  exact h2
            · have HE2 := hid (show Li.apply L c = (L.set k ⟨⟨xid, xns⟩, fr, tt, true⟩, 0) by
                rw [HE.out, HRV.out]
                simp [Li.upd, HC.out.1])
              clear hone
              go_upto_region 25 with (fail)
              obtain ⟨W6, hW6⟩ : ∃ W6, W6 = w3.alloc (.cells #[.string (bs xid), .slice ma xns.length mc, .int .i64 fr, .int .i64 tt, .bool true] 50) := ⟨_, rfl⟩
              rw [← hW6]
              have HX6 := hid (LsBox.new hW6)
              clear hW6
              go_wp2_with fail
              refine (cloneL_any ps _ W6 (HLS.out.sl.below (Below.step HB3.out HX6.out.below)) HONE.out (by omega)).mono ?_
              rintro e w7 ⟨vc, rfl, ho7, hb7⟩
              obtain ⟨g7, cap7, rfl⟩ : ∃ g cap, vc = .slice (some ⟨g, 0, none⟩) ps.length cap := by
                rcases ho7.2 with ⟨_, h0⟩ | ⟨g, cap', cur, h0, _⟩
                · omega
                · exact ⟨g, cap', h0⟩
              have hr7 : ∀ (j : Nat) (v : Value), (lsC (⟨⟨xid, xns⟩, fr, tt, false⟩, .slice ma xns.length mc))[j]? = some v → w7.cell? ⟨g7, 0 + k * 5 + j, none⟩ = some v := by
                obtain ⟨a', cap', ev, -, -, hr⟩ := SlOf.own ho7 (fun _ _ => rfl)
                have ev2 := (Value.slice.inj ev).1
                obtain ⟨g, o, ea, hr⟩ := hr (by omega)
                rw [← ev2] at ea
                cases ea
                exact hr.2 k _ HQ.out
              have y0 := hr7 0 _ rfl
              have y1 := hr7 1 _ rfl
              have y2 := hr7 2 _ rfl
              have y3 := hr7 3 _ rfl
              have y4 := hr7 4 _ rfl
              rw [Nat.zero_add, Nat.add_zero] at y0
              rw [Nat.zero_add] at y1 y2 y3 y4
              have hg7 : g7 < w7.heap.size := (ho7.lt g7 rfl).2
              have f0 := ho7.frozenAt (k * 5)
              have f1 := ho7.frozenAt (k * 5 + 1)
              have f2 := ho7.frozenAt (k * 5 + 2)
              have f3 := ho7.frozenAt (k * 5 + 3)
              have f4 := ho7.frozenAt (k * 5 + 4)
              have HO7 := hid (And.intro ho7 hb7)
              have HX7 := hid (HX6.out.step hb7)
              clear c0 c1 c2 c3 c4 z1 e0 e1 e2 e3 e4 ho7 hb7 hr7
              obtain ⟨c0, c1, c2, c3, c4, z7, -⟩ := HX7.out
              go_wp2_with fail
              obtain ⟨W8, hW8⟩ : ∃ W8, W8 = ((((w7.setCell ⟨g7, k * 5, none⟩ (.string (bs xid))).setCell ⟨g7, k * 5 + 1, none⟩ (.slice ma xns.length mc)).setCell ⟨g7, k * 5 + 2, none⟩ (.int .i64 fr)).setCell ⟨g7, k * 5 + 3, none⟩ (.int .i64 tt)).setCell ⟨g7, k * 5 + 4, none⟩ (.bool true) := ⟨_, rfl⟩
              rw [← hW8]
              have H8 := hid (show W8.ownsRow W6.heap.size 50 5 (.slice (some ⟨g7, 0, none⟩) ps.length cap7) (ps.set k (⟨⟨xid, xns⟩, fr, tt, true⟩, .slice ma xns.length mc)).length ((ps.set k (⟨⟨xid, xns⟩, fr, tt, true⟩, .slice ma xns.length mc)).flatMap lsC) by
                rw [hW8, List.length_set, ← flat_set5 hk]
                exact (((((HO7.out.1.stored (k * 5) _).1.stored (k * 5 + 1) _).1.stored (k * 5 + 2) _).1.stored (k * 5 + 3) _).1.stored (k * 5 + 4) _).1)
              have HB8 := hid (show Below w.heap.size w W8 by
                have hb := Below.step (Below.step HB3.out HX6.out.below) HO7.out.2
                have hge : w.heap.size ≤ g7 := Nat.le_trans (Below.step HB3.out HX6.out.below).size (HO7.out.1.lt g7 rfl).1
                rw [hW8]
                exact ((((hb.setCell (p := ⟨g7, k * 5, none⟩) hge _).setCell (p := ⟨g7, k * 5 + 1, none⟩) hge _).setCell (p := ⟨g7, k * 5 + 2, none⟩) hge _).setCell (p := ⟨g7, k * 5 + 3, none⟩) hge _).setCell (p := ⟨g7, k * 5 + 4, none⟩) hge _)
              clear hW8
              go_ret2
              have HE3 := HAL.out _ HE2.out
              refine ⟨_, _, by rw [HE3]; rfl, ?_, ownsRow_base H8.out (Below.step HB3.out HX6.out.below).size, fun N h1 h2 p hp => ?_, HB8.out⟩
              · rw [HE3, HL.out, List.map_set]
              · rcases List.mem_or_eq_of_mem_set hp with hp | hp
                · exact h1 p hp
                · subst hp
                  exact h1 (⟨⟨xid, xns⟩, fr, tt, false⟩, .slice ma xns.length mc) (List.mem_of_getElem? HQ.out)

end Go.Proofs.YtidkmhokolknbaaGreatDoor

namespace Li

theorem run_snoc (c : Ch) : ∀ (cs : List Ch) (l : List Ls), run l (cs ++ [c]) = (if (apply (run l cs).1 c).2 = 0 then (apply (run l cs).1 c).1 else (run l cs).1, (run l cs).2 ++ [(apply (run l cs).1 c).2])
  | [], l => rfl
  | d :: cs, l => by
    have ih := run_snoc c cs (if (apply l d).2 = 0 then (apply l d).1 else l)
    show (_, _) = _
    simp only [List.append_eq]
    rw [ih]
    rfl
theorem run_short : ∀ (cs : List Ch) (l : List Ls), l.length ≤ 400 → (run l cs).1.length ≤ 400
  | [], l, h => h
  | c :: cs, l, h => by
    have : (if (apply l c).2 = 0 then (apply l c).1 else l).length ≤ 400 := by
      split
      · rename_i h0
        exact (properL_parts (apply_proper h0)).2.2
      · exact h
    exact run_short cs _ this
theorem run_errs : ∀ (cs : List Ch) (l : List Ls), (run l cs).2.length = cs.length
  | [], _ => rfl
  | c :: cs, l => by
    show _ + 1 = _
    rw [run_errs cs]
    rfl

end Li
namespace Go.Proofs.YtidkmhokolknbaaGreatDoor
open Go.RowKit Go.Lib Go.Maps

theorem Tryz.infoErr : (Tryz.prog.info? 32).map (fun i => (i.zero, i.size, i.bytes)) = some (some (.int .i64 0), 1, 8) := by kernel_rfl

def intC (n : Int) : List Value := [.int .i64 n]
/-- changes that lie in w -/
structure ChsAt (w : World) (v : Value) (cs : List (Li.Ch × Value)) : Prop where
  sl : SlOf w v 5 chC cs
  nm : ∀ p ∈ cs, NmsIn w p.2 p.1.en.names
  id : ∀ p ∈ cs, p.1.id.length ≤ 5000 ∧ p.1.en.id.length ≤ 5000
theorem ChsAt.below {w w' : World} {v : Value} {cs : List (Li.Ch × Value)} (h : ChsAt w v cs) (hb : Below w.heap.size w w') : ChsAt w' v cs := ⟨h.sl.below hb, fun p hp => (h.nm p hp).below hb, h.id⟩

/-- what Run ends in -/
def RunP (L : List Li.Ch) (w : World) (e : Ending) (w' : World) : Prop :=
  ∃ (v u : Value) (ps : List (Li.Ls × Value)), e = .returned (.tuple #[v, u]) ∧ ps.map Prod.fst = (Li.run [] L).1 ∧ LssAt w' v ps ∧ SlOf w' u 1 intC (Li.run [] L).2 ∧ Below w.heap.size w w'

/-- between two rounds of Run -/
structure RW (L : List Li.Ch) (k : Nat) (w : World) (ov ev : Value) (wr : World) : Prop where
  ls : ∃ ps : List (Li.Ls × Value), wr.ownsRow w.heap.size 50 5 ov ps.length (ps.flatMap lsC) ∧ ps.map Prod.fst = (Li.run [] (L.take k)).1 ∧ ∀ p ∈ ps, NmsIn w p.2 p.1.en.names ∧ p.1.en.id.length ≤ 5000
  er : wr.ownsRow w.heap.size 32 1 ev (Li.run [] (L.take k)).2.length ((Li.run [] (L.take k)).2.flatMap intC)
  below : Below w.heap.size w wr

set_option maxRecDepth 100000 in
set_option maxHeartbeats 4000000 in
theorem run_any (cs : List (Li.Ch × Value)) (v : Value) (w : World) (h : ChsAt w v cs) (hd : cs.length ≤ 5000) (hA : Tabs w) (hT : Tab10 w) :
    Calls Tryz.prog 16 #[v] w (RunP (cs.map Prod.fst) w) := by
  obtain ⟨i0, hi, hz0, hz1, hz2⟩ := info_parts Tryz.infoErr
  have HCS := hid h
  have HAA := hid hA
  have HTT := hid hT
  obtain ⟨⟨va, cap, rfl, k1, k2, -⟩, -, -⟩ := h
  have hl1 : cs.length ≤ 9223372036854775807 := by omega
  obtain ⟨L, hL⟩ : ∃ L, L = cs.map Prod.fst := ⟨_, rfl⟩
  have HL := hid hL
  rw [← hL]
  clear k1 k2 hA hT hL
  go_enter Tryz.func16, Tryz.ntmps16
  go_wp2_with fail
  go_loopw [4, 5, 12] (fun ov ev iv wr => ∃ (k : Nat) (lv mv : Value), k ≤ cs.length ∧ iv = .int .i64 k ∧ lv = ov ∧ mv = ev ∧ Hid (RW L k w lv mv wr)) (fun _ _ iv _ => cs.length - (RowKit.intOf iv).toNat)
  case atStart => exact ⟨0, _, _, Nat.zero_le _, rfl, rfl, rfl, ⟨[], World.ownsRow_nil _ _ _ _, rfl, fun p hp => by cases hp⟩, World.ownsRow_nil _ _ _ _, Below.refl _ _⟩
  case round =>
    obtain ⟨k, ov, ev, hk, rfl, rfl, rfl, HR⟩ := hrel
    obtain ⟨ea, ec, rfl⟩ := ownsRow_slice HR.out.er
    by_cases hlt : k < cs.length
    · obtain ⟨q, hq⟩ : ∃ q, cs[k]? = some q := ⟨_, List.getElem?_eq_getElem hlt⟩
      have hqm := List.mem_of_getElem? hq
      have hLk : L[k]? = some q.1 := by rw [HL.out, List.getElem?_map, hq]; rfl
      have hnm := (HCS.out.nm q hqm).below HR.out.below
      have hidl := HCS.out.id q hqm
      obtain ⟨na, nc, hv⟩ := hnm.slice
      obtain ⟨g, o, rfl, hr⟩ : ∃ g o, va = some ⟨g, o, none⟩ ∧ RowOf wr g o 5 chC cs := by
        obtain ⟨a', cap', ev, -, -, hr⟩ := HCS.out.sl.below HR.out.below
        cases ev
        exact hr (by omega)
      have hc := hr.2 k q hq
      have e0 := hc 0 _ rfl
      have e1 := hc 1 _ rfl
      have e2 := hc 2 _ rfl
      have e3 := hc 3 _ rfl
      have e4 := hc 4 _ rfl
      have hg := hr.1
      clear hc hr hq
      have hn0 := HCS.out.nm q hqm
      clear hqm
      obtain ⟨⟨kd, id, ⟨eid, ns⟩, at_⟩, u⟩ := q
      simp only at hnm hidl hv e0 e1 e2 e3 e4 hLk hn0
      subst hv
      rw [Nat.add_zero] at e0
      have hk0 : (0 : Int) ≤ (k : Int) := by omega
      have hk1 : (k : Int) < (cs.length : Int) := by omega
      obtain ⟨W5, hW5⟩ : ∃ W5, W5 = wr.alloc (.cells #[.int .i64 kd, .string (bs id), .string (bs eid), .slice na ns.length nc, .int .i64 at_] 27) := ⟨_, rfl⟩
      have HX := hid (ChBox.new hW5)
      have HB5 := hid (Below.step HR.out.below HX.out.below)
      obtain ⟨ps, hpo, hpm, hpn⟩ := HR.out.ls
      have hps : LssAt wr ov ps := ⟨SlOf.own hpo (fun _ _ => rfl), fun p hp => (hpn p hp).1.below HR.out.below, fun p hp => (hpn p hp).2⟩
      have hpl : ps.length ≤ 400 := by
        have := Li.run_short (L.take k) [] (by simp)
        rw [← hpm, List.length_map] at this
        exact this
      have HAP := hid (apply_any kd id eid ns _ at_ ps ov W5 (hps.below HX.out.below) (by omega) (hnm.below HX.out.below) hidl.1 hidl.2 (HAA.out.below HB5.out) (HTT.out.below HB5.out))
      have HPS := hid (And.intro hpm hpn)
      obtain ⟨c, hc⟩ : ∃ c, c = (⟨kd, id, ⟨eid, ns⟩, at_⟩ : Li.Ch) := ⟨_, rfl⟩
      rw [← hc] at HAP hLk
      have HLK := hid hLk
      have HN0 := hid (show NmsIn w (.slice na ns.length nc) c.en.names ∧ c.en.id.length ≤ 5000 by rw [hc]; exact ⟨hn0, hidl.2⟩)
      have HPO0 := hid hpo
      clear hps hpm hpl hLk hnm hidl hc hpo hpn hn0
      obtain ⟨c0, c1, c2, c3, c4, z5, -⟩ := HX.out
      go_upto_region 6 with (fail)
      rw [← hW5]
      clear hW5 e0 e1 e2 e3 e4
      go_wp2_with fail
      refine (HAP.out).mono ?_
      rintro e w6 ⟨nv, ps', rfl, hm6, hl6, hN6, hb6⟩
      obtain ⟨rc, hrc⟩ : ∃ rc, rc = (Li.apply (ps.map Prod.fst) c).2 := ⟨_, rfl⟩
      rw [← hrc]
      have HB6 := hid (Below.step HB5.out hb6)
      have H6 := hid (And.intro hm6 (And.intro (ownsRow_base hl6 HB5.out.size) (fun N => hN6 N)))
      have HRC := hid hrc
      have HPO := hid (ownsRow_below HPO0.out (Below.step HX.out.below hb6))
      have HO6 := hid (ownsRow_below HR.out.er (Below.step HX.out.below hb6))
      have hown6 := HO6.out.alloc (.cells #[.int .i64 rc] 32)
      have HLEN := hid (show (Li.run [] (L.take k)).2.length = k by rw [Li.run_errs, List.length_take, HL.out, List.length_map]; omega)
      have hll := HLEN.out
      rw [hll] at hown6 ⊢
      have hn2 : k ≤ 5000 := by omega
      have hz6 := HB6.out.size
      clear hm6 hl6 hN6 hrc hb6 c0 c1 c2 c3 c4 z5 hll
      have HSN := hid (Li.run_snoc c (L.take k) [])
      cases h0 : (rc == 0) with
      | true =>
        go_wp2_with (at_builtin; refine wpList_append_own _ rfl _ _ 35 rfl w.heap.size 32 i0 (.int .i64 0) 1 8 Tryz.underlying35 hi hz0 hz1 hz2 rfl (by decide) _ _ _ rfl hown6 ⟨w6.heap.size, 0, none⟩ 1 1 [.int .i64 rc] rfl rfl (cells_new rfl) (by simp [Value.oneCell']) (by unfold maxLen; omega) (by omega) (by simp; omega) ?_; intro v' w7 ho7 hg7 _)
        go_roundw
        case rel =>
          refine ⟨k + 1, _, _, by omega, by go_num, rfl, rfl, ?_⟩
          have hst := HSN.out
          rw [← HPS.out.1, ← HRC.out] at hst
          have htk := take_snoc HLK.out
          refine ⟨⟨ps', ?_, ?_, ?_⟩, ?_, Below.appended (HB6.out.alloc hz6 _) hg7 (by simp; omega) hown6⟩
          · refine (H6.out.2.1.alloc (.cells #[.int .i64 rc] 32)).kept hg7 ?_
            cases hv : Value.ownBlock _ with
            | none => exact .inl rfl
            | some r =>
              refine .inr (fun e => ?_)
              obtain ⟨_, cs1, h3⟩ := own_cells (H6.out.2.1.alloc (.cells #[.int .i64 rc] 32)) hv
              obtain ⟨_, cs2, h4⟩ := own_cells hown6 e.symm
              rw [h3] at h4
              cases h4
          · rw [htk, hst]
            rw [if_pos (by simpa using h0)]
            exact H6.out.1
          · exact H6.out.2.2 (fun v en => NmsIn w v en.names ∧ en.id.length ≤ 5000) HPS.out.2 HN0.out
          · rw [htk, hst]
            simp only [List.length_append, List.length_cons, List.length_nil, List.flatMap_append]
            rw [HLEN.out]
            exact ho7
        case measure => simp [RowKit.intOf]; omega
      | false =>
        go_wp2_with (at_builtin; refine wpList_append_own _ rfl _ _ 35 rfl w.heap.size 32 i0 (.int .i64 0) 1 8 Tryz.underlying35 hi hz0 hz1 hz2 rfl (by decide) _ _ _ rfl hown6 ⟨w6.heap.size, 0, none⟩ 1 1 [.int .i64 rc] rfl rfl (cells_new rfl) (by simp [Value.oneCell']) (by unfold maxLen; omega) (by omega) (by simp; omega) ?_; intro v' w7 ho7 hg7 _)
        go_roundw
        case rel =>
          refine ⟨k + 1, _, _, by omega, by go_num, rfl, rfl, ?_⟩
          have hst := HSN.out
          rw [← HPS.out.1, ← HRC.out] at hst
          have htk := take_snoc HLK.out
          refine ⟨⟨ps, ?_, ?_, ?_⟩, ?_, Below.appended (HB6.out.alloc hz6 _) hg7 (by simp; omega) hown6⟩
          · refine (HPO.out.alloc (.cells #[.int .i64 rc] 32)).kept hg7 ?_
            cases hv : Value.ownBlock _ with
            | none => exact .inl rfl
            | some r =>
              refine .inr (fun e => ?_)
              obtain ⟨_, cs1, h3⟩ := own_cells (HPO.out.alloc (.cells #[.int .i64 rc] 32)) hv
              obtain ⟨_, cs2, h4⟩ := own_cells hown6 e.symm
              rw [h3] at h4
              cases h4
          · rw [htk, hst]
            rw [if_neg (by simpa using h0)]
          · exact HPS.out.2
          · rw [htk, hst]
            simp only [List.length_append, List.length_cons, List.length_nil, List.flatMap_append]
            rw [HLEN.out]
            exact ho7
        case measure => simp [RowKit.intOf]; omega
    · have hke : k = cs.length := by omega
      have HE := hid (show L.take k = L by rw [List.take_of_length_le]; rw [HL.out, List.length_map]; omega)
      have HLEN := hid (show (Li.run [] (L.take k)).2.length = k by rw [Li.run_errs, List.length_take, HL.out, List.length_map]; omega)
      have hll := HLEN.out
      clear hke
      go_wp2_with fail
      go_ret2
      obtain ⟨ps, h1, h2, h3⟩ := HR.out.ls
      have e2 : (Li.run [] L).2 = (Li.run [] (L.take k)).2 := by rw [HE.out]
      refine ⟨_, _, ps, rfl, by rw [h2, HE.out], ⟨SlOf.own h1 (fun _ _ => rfl), fun p hp => (h3 p hp).1.below HR.out.below, fun p hp => (h3 p hp).2⟩, ?_, HR.out.below⟩
      rw [e2]
      exact SlOf.own HR.out.er (fun _ _ => rfl)

end Go.Proofs.YtidkmhokolknbaaGreatDoor

namespace Go.Proofs.YtidkmhokolknbaaGreatDoor
open Go.RowKit Go.Lib Go.Maps

theorem Tryz.infoEn : (Tryz.prog.info? 25).map (fun i => (i.zero, i.size, i.bytes)) = some (some (.agg #[.string ⟨#[]⟩, .slice none 0 0]), 2, 40) := by kernel_rfl

/-- the entries of those that are listed -/
def lvs (t : Int) (ps : List (Li.Ls × Value)) : List (Li.En × Value) := (ps.filter fun p => Li.live t p.1).map fun p => (p.1.en, p.2)
theorem lvs_step {t : Int} {ps : List (Li.Ls × Value)} {k : Nat} {q : Li.Ls × Value} (h : ps[k]? = some q) : lvs t (ps.take (k + 1)) = lvs t (ps.take k) ++ if Li.live t q.1 = true then [(q.1.en, q.2)] else [] := by
  unfold lvs
  rw [take_snoc h, List.filter_append, List.map_append]
  by_cases hl : Li.live t q.1 = true
  · simp [hl]
  · simp [hl]
theorem lvs_fst (t : Int) (ps : List (Li.Ls × Value)) : (lvs t ps).map Prod.fst = ((ps.map Prod.fst).filter (Li.live t)).map Li.Ls.en := by
  unfold lvs
  rw [List.map_map, List.filter_map, List.map_map]
  rfl
theorem lvs_len (t : Int) (ps : List (Li.Ls × Value)) : (lvs t ps).length ≤ ps.length := by
  unfold lvs
  rw [List.length_map]
  exact List.length_filter_le _ _
theorem lvs_mem {t : Int} {ps : List (Li.Ls × Value)} {e : Li.En × Value} (h : e ∈ lvs t ps) : ∃ p ∈ ps, e = (p.1.en, p.2) := by
  unfold lvs at h
  obtain ⟨p, hp, rfl⟩ := List.mem_map.1 h
  exact ⟨p, (List.mem_filter.1 hp).1, rfl⟩

/-- what At ends in -/
def AtP (L : List Li.Ls) (t : Int) (w : World) (e : Ending) (w' : World) : Prop :=
  ∃ (v : Value) (es : List (Li.En × Value)), e = .returned v ∧ es.map Prod.fst = Li.at_ L t ∧ EnsAt w' v es ∧ Below w.heap.size w w'

set_option maxRecDepth 100000 in
set_option maxHeartbeats 4000000 in
theorem listAt_any (ps : List (Li.Ls × Value)) (v : Value) (t : Int) (w : World) (h : LssAt w v ps) (hd : ps.length ≤ 5000) (hA : Tabs w) (hT : Tab10 w) :
    Calls Tryz.prog 26 #[v, .int .i64 t] w (AtP (ps.map Prod.fst) t w) := by
  obtain ⟨i0, hi, hz0, hz1, hz2⟩ := info_parts Tryz.infoEn
  have HLS := hid h
  have HTT := hid hT
  have HP := hid (properL_any ps v w h hd hA hT)
  obtain ⟨⟨va, cap, rfl, k1, k2, -⟩, -, -⟩ := h
  have hl1 : ps.length ≤ 9223372036854775807 := by omega
  clear k1 k2 hA hT
  go_enter Tryz.func26, Tryz.ntmps26
  go_wp2_with fail
  refine (HP.out).mono ?_
  rintro e w1 ⟨hb1, m, rfl, hm⟩
  have HB1 := hid hb1
  have HI := hid (listInst_any t w1 (HTT.out.below hb1))
  clear hb1 hm
  cases hp : Li.properL (ps.map Prod.fst) with
  | false =>
    have HE := hid (show Li.at_ (ps.map Prod.fst) t = [] by unfold Li.at_; rw [hp]; rfl)
    clear hp
    go_wp2_with fail
    go_ret
    exact ⟨_, [], rfl, by rw [HE.out]; rfl, EnsAt.nil _, HB1.out⟩
  | true =>
    have HPR := hid hp
    clear hp
    cases hin : Li.inst t with
    | false =>
      have HE := hid (show Li.at_ (ps.map Prod.fst) t = [] by unfold Li.at_; rw [hin, Bool.and_false]; rfl)
      rw [hin] at HI
      clear hin
      go_wp2_with fail
      refine (HI.out).mono ?_
      rintro e w2 ⟨rfl, hb2⟩
      have HB2 := hid (Below.step HB1.out hb2)
      clear hb2
      go_wp2_with fail
      go_ret
      exact ⟨_, [], rfl, by rw [HE.out]; rfl, EnsAt.nil _, HB2.out⟩
    | true =>
      have HE := hid (show Li.at_ (ps.map Prod.fst) t = ((ps.map Prod.fst).filter (Li.live t)).map Li.Ls.en by unfold Li.at_; rw [hin, HPR.out]; rfl)
      rw [hin] at HI
      clear hin
      go_wp2_with fail
      refine (HI.out).mono ?_
      rintro e w2 ⟨rfl, hb2⟩
      have HB2 := hid (Below.step HB1.out hb2)
      clear hb2
      go_wp2_with fail
      go_loopw [7, 24] (fun ov iv wr => ∃ k : Nat, k ≤ ps.length ∧ iv = .int .i64 k ∧ Hid (wr.ownsRow w.heap.size 25 2 ov (lvs t (ps.take k)).length ((lvs t (ps.take k)).flatMap enC)) ∧ Hid (Below w.heap.size w wr)) (fun _ iv _ => ps.length - (RowKit.intOf iv).toNat)
      case atStart => exact ⟨0, Nat.zero_le _, rfl, World.ownsRow_nil _ _ _ _, HB2.out⟩
      case round =>
        obtain ⟨k, hk, rfl, HO, HBR⟩ := hrel
        obtain ⟨oa, oc, rfl⟩ := ownsRow_slice HO.out
        by_cases hlt : k < ps.length
        · obtain ⟨q, hq⟩ : ∃ q, ps[k]? = some q := ⟨_, List.getElem?_eq_getElem hlt⟩
          have hnm := HLS.out.nm q (List.mem_of_getElem? hq)
          obtain ⟨na, nc, hv⟩ := hnm.slice
          obtain ⟨g, o, rfl, hr⟩ : ∃ g o, va = some ⟨g, o, none⟩ ∧ RowOf wr g o 5 lsC ps := by
            obtain ⟨a', cap', ev, -, -, hr⟩ := HLS.out.sl.below HBR.out
            cases ev
            exact hr (by omega)
          have hc := hr.2 k q hq
          have e0 := hc 0 _ rfl
          have e1 := hc 1 _ rfl
          have e2 := hc 2 _ rfl
          have e3 := hc 3 _ rfl
          have e4 := hc 4 _ rfl
          have hg := hr.1
          have hst := lvs_step (t := t) hq
          have hll := lvs_len t (ps.take k)
          rw [List.length_take] at hll
          clear hc hr hnm hq
          obtain ⟨⟨⟨id, ns⟩, fr, tt, vd⟩, u⟩ := q
          simp only at hv e0 e1 e2 e3 e4 hst
          subst hv
          rw [Nat.add_zero] at e0
          have hk0 : (0 : Int) ≤ (k : Int) := by omega
          have hk1 : (k : Int) < (ps.length : Int) := by omega
          obtain ⟨W5, hW5⟩ : ∃ W5, W5 = wr.alloc (.cells #[.string (bs id), .slice na ns.length nc, .int .i64 fr, .int .i64 tt, .bool vd] 50) := ⟨_, rfl⟩
          have HX := hid (LsBox.new hW5)
          have HB5 := hid HX.out.below
          obtain ⟨lv, hlv⟩ : ∃ lv, lv = Li.live t (⟨⟨id, ns⟩, fr, tt, vd⟩ : Li.Ls) := ⟨_, rfl⟩
          have HLV := hid (show lv = (!vd && decide (fr ≤ t) && (decide (tt = -1) || decide (t < tt))) from hlv)
          rw [← hlv] at hst
          have HST := hid hst
          have HLL := hid hll
          clear hlv hst hll
          go_upto_region 8 with (fail)
          rw [← hW5]
          clear hW5 e0 e1 e2 e3 e4
          obtain ⟨c0, c1, c2, c3, c4, z5, -⟩ := HX.out
          go_cut [47, 24] from 24 to 53 (fun v47 v24 wx => v47 = .bool lv ∧ v24 = .int .i64 k ∧ wx = W5)
          case first =>
            cases vd with
            | true =>
              have HR := hid (show false = lv by rw [HLV.out]; rfl)
              go_wp2_with fail
              go_meet
              case rel => exact ⟨congrArg Value.bool HR.out, rfl, rfl⟩
            | false =>
              by_cases hf : fr ≤ t
              · by_cases ht : tt = -1
                · have t1 : (tt == -1) = true := by rw [ht]; rfl
                  have HR := hid (show true = lv by rw [HLV.out, decide_eq_true hf, decide_eq_true ht]; rfl)
                  clear ht
                  go_wp2_with fail
                  go_meet
                  case rel => exact ⟨congrArg Value.bool HR.out, rfl, rfl⟩
                · have t1 : (tt == -1) = false := by rw [beq_eq_false_iff_ne]; exact ht
                  have HR := hid (show decide (t < tt) = lv by rw [HLV.out, decide_eq_true hf, decide_eq_false ht]; simp)
                  clear ht
                  go_wp2_with fail
                  go_meet
                  case rel => exact ⟨congrArg Value.bool HR.out, rfl, rfl⟩
              · have HR := hid (show false = lv by rw [HLV.out, decide_eq_false hf]; rfl)
                go_wp2_with fail
                go_meet
                case rel => exact ⟨congrArg Value.bool HR.out, rfl, rfl⟩
          case rest =>
          obtain ⟨rfl, rfl, hwx⟩ := hcut
          rw [hwx]
          clear hwx
          have HB9 := hid (Below.step HBR.out HB5.out)
          cases lv with
          | false =>
            go_wp2_with fail
            go_roundw
            case rel =>
              refine ⟨k + 1, by omega, by go_num, ?_, HB9.out⟩
              rw [HST.out]
              simp only [Bool.false_eq_true, if_false, List.append_nil]
              exact ownsRow_below HO.out HB5.out
            case measure => simp [RowKit.intOf]; omega
          | true =>
            have hown5 := (ownsRow_below HO.out HB5.out).alloc (.cells #[.string (bs id), .slice na ns.length nc] 25)
            have hz5 := HB9.out.size
            have HL2 := HLL.out
            have hn2 : (lvs t (ps.take k)).length ≤ 5000 := by omega
            obtain ⟨n, hn⟩ : ∃ n, n = (lvs t (ps.take k)).length := ⟨_, rfl⟩
            rw [← hn] at hown5 hn2 ⊢
            have HN := hid hn
            clear hn
            go_wp2_with (at_builtin; refine wpList_append_own _ rfl _ _ 45 rfl w.heap.size 25 i0 (.agg #[.string ⟨#[]⟩, .slice none 0 0]) 2 40 Tryz.underlying45 hi hz0 hz1 hz2 rfl (by decide) _ _ _ rfl hown5 ⟨W5.heap.size, 0, none⟩ 1 1 [.string (bs id), .slice na ns.length nc] rfl rfl (cells_new rfl) (by simp [Value.oneCell']) (by unfold maxLen; omega) (by omega) (by simp; omega) ?_; intro v' w4 ho4 hg4 _)
            go_roundw
            case rel =>
              refine ⟨k + 1, by omega, by go_num, ?_, Below.appended (HB9.out.alloc hz5 _) hg4 (by simp; omega) hown5⟩
              rw [HST.out]
              simp only [if_true, List.flatMap_append, List.length_append]
              rw [← HN.out]
              exact ho4
            case measure => simp [RowKit.intOf]; omega
        · have hke : k = ps.length := by omega
          have HOE := hid (show wr.ownsRow w.heap.size 25 2 (.slice oa (lvs t (ps.take k)).length oc) (lvs t ps).length ((lvs t ps).flatMap enC) by
            have := HO.out
            rw [hke, List.take_length] at this ⊢
            exact this)
          clear hke
          go_wp2_with fail
          go_ret
          refine ⟨_, lvs t ps, rfl, by rw [HE.out]; exact lvs_fst t ps, ⟨SlOf.own HOE.out (fun x _ => rfl), fun p hp => ?_, fun p hp => ?_⟩, HBR.out⟩
          · obtain ⟨q, hq, rfl⟩ := lvs_mem hp
            exact (HLS.out.nm q hq).below HBR.out
          · obtain ⟨q, hq, rfl⟩ := lvs_mem hp
            exact HLS.out.id q hq

end Go.Proofs.YtidkmhokolknbaaGreatDoor
