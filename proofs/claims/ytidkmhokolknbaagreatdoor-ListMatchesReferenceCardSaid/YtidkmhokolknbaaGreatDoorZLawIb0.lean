/-
  The law file's without, has. Conditions: none.
-/
import Derived.Test.YtidkmhokolknbaaGreatDoorZLawIa
namespace Go.Proofs.YtidkmhokolknbaaGreatDoor
open Go.RowKit Go.Lib Go.Maps

/-- entries in memory, of whatever size -/
structure EnsRaw (w : World) (v : Value) (es : List (Li.En × Value)) : Prop where
  sl : SlOf w v 2 enC es
  nm : ∀ p ∈ es, NmsRin w p.2 p.1.names
theorem EnsRaw.below {w w' : World} {v : Value} {es : List (Li.En × Value)} (h : EnsRaw w v es) (hb : Below w.heap.size w w') : EnsRaw w' v es := ⟨h.sl.below hb, fun p hp => (h.nm p hp).below hb⟩
theorem EnsAt.raw {w : World} {v : Value} {es : List (Li.En × Value)} (h : EnsAt w v es) : EnsRaw w v es := ⟨h.sl, fun p hp => (h.nm p hp).rin⟩

/-- those without an Id -/
def wo (id : List UInt8) (es : List (Li.En × Value)) : List (Li.En × Value) := es.filter fun p => decide (p.1.id ≠ id)
theorem wo_fst (id : List UInt8) (es : List (Li.En × Value)) : (wo id es).map Prod.fst = Li.without (es.map Prod.fst) id := by
  unfold wo Li.without
  rw [List.filter_map]
  rfl
theorem wo_step {id : List UInt8} {es : List (Li.En × Value)} {k : Nat} {q : Li.En × Value} (h : es[k]? = some q) : wo id (es.take (k + 1)) = wo id (es.take k) ++ if q.1.id = id then [] else [q] := by
  unfold wo
  rw [take_snoc h, List.filter_append]
  by_cases hl : q.1.id = id
  · simp [hl]
  · simp [hl]
theorem wo_len (id : List UInt8) (es : List (Li.En × Value)) : (wo id es).length ≤ es.length := List.length_filter_le _ _

/-- what without ends in -/
def WoP (es : List (Li.En × Value)) (id : List UInt8) (w : World) (e : Ending) (w' : World) : Prop :=
  ∃ a c, e = .returned (.slice a (wo id es).length c) ∧ EnsRaw w' (.slice a (wo id es).length c) (wo id es) ∧ Below w.heap.size w w'

set_option maxRecDepth 100000 in
set_option maxHeartbeats 4000000 in
theorem without_any (es : List (Li.En × Value)) (v : Value) (id : List UInt8) (w : World) (h : EnsRaw w v es) (hd : es.length ≤ 5000) : Calls Tryz.prog 31 #[v, .string (bs id)] w (WoP es id w) := by
  obtain ⟨i0, hi, hz0, hz1, hz2⟩ := info_parts Tryz.infoEn
  have HES := hid h
  obtain ⟨⟨va, cap, rfl, k1, k2, -⟩, -⟩ := h
  have hl1 : es.length ≤ 9223372036854775807 := by omega
  clear k1 k2
  go_enter Tryz.func31, Tryz.ntmps31
  go_wp2_with fail
  go_loopw [5, 6] (fun ov iv wr => ∃ (k : Nat) (mv : Value), k ≤ es.length ∧ iv = .int .i64 k ∧ mv = ov ∧ Hid (wr.ownsRow w.heap.size 25 2 mv (wo id (es.take k)).length ((wo id (es.take k)).flatMap enC)) ∧ Hid (Below w.heap.size w wr)) (fun _ iv _ => es.length - (RowKit.intOf iv).toNat)
  case atStart => exact ⟨0, _, Nat.zero_le _, rfl, rfl, World.ownsRow_nil _ _ _ _, Below.refl _ _⟩
  case round =>
    obtain ⟨k, ov, hk, rfl, rfl, HO, HBR⟩ := hrel
    obtain ⟨oa, oc, rfl⟩ := ownsRow_slice HO.out
    by_cases hlt : k < es.length
    · obtain ⟨q, hq⟩ : ∃ q, es[k]? = some q := ⟨_, List.getElem?_eq_getElem hlt⟩
      have hnm := HES.out.nm q (List.mem_of_getElem? hq)
      obtain ⟨na, nc, hv⟩ := hnm.slice
      obtain ⟨g, o, rfl, hr⟩ : ∃ g o, va = some ⟨g, o, none⟩ ∧ RowOf wr g o 2 enC es := by
        obtain ⟨a', cap', ev, -, -, hr⟩ := HES.out.sl.below HBR.out
        cases ev
        exact hr (by omega)
      have hc := hr.2 k q hq
      have e0 := hc 0 _ rfl
      have e1 := hc 1 _ rfl
      have hg := hr.1
      have hst := wo_step (id := id) hq
      have hll := wo_len id (es.take k)
      rw [List.length_take] at hll
      clear hc hr hnm hq
      obtain ⟨⟨eid, ns⟩, u⟩ := q
      simp only at hv e0 e1 hst
      subst hv
      rw [Nat.add_zero] at e0
      have hk0 : (0 : Int) ≤ (k : Int) := by omega
      have hk1 : (k : Int) < (es.length : Int) := by omega
      have hnb := name_beq eid id
      have HST := hid hst
      have HLL := hid hll
      clear hst hll
      by_cases hid_ : eid = id
      · rw [decide_eq_true hid_] at hnb
        have HE := hid (show wo id (es.take (k + 1)) = wo id (es.take k) by rw [HST.out, if_pos hid_, List.append_nil])
        clear hid_
        go_wp2_with fail
        go_roundw
        case rel => exact ⟨k + 1, _, by omega, by go_num, rfl, by rw [HE.out]; exact HO.out, HBR.out⟩
        case measure => simp [RowKit.intOf]; omega
      · rw [decide_eq_false hid_] at hnb
        have HE := hid (show wo id (es.take (k + 1)) = wo id (es.take k) ++ [(⟨eid, ns⟩, .slice na ns.length nc)] by rw [HST.out, if_neg hid_])
        clear hid_
        have hown5 := HO.out.alloc (.cells #[.string (bs eid), .slice na ns.length nc] 25)
        have hz5 := HBR.out.size
        have HL2 := HLL.out
        have hn2 : (wo id (es.take k)).length ≤ 5000 := by omega
        obtain ⟨n, hn⟩ : ∃ n, n = (wo id (es.take k)).length := ⟨_, rfl⟩
        rw [← hn] at hown5 hn2 ⊢
        have HN := hid hn
        clear hn
        go_wp2_with (at_builtin; refine wpList_append_own _ rfl _ _ 45 rfl w.heap.size 25 i0 (.agg #[.string ⟨#[]⟩, .slice none 0 0]) 2 40 Tryz.underlying45 hi hz0 hz1 hz2 rfl (by decide) _ _ _ rfl hown5 ⟨wr.heap.size, 0, none⟩ 1 1 [.string (bs eid), .slice na ns.length nc] rfl rfl (cells_new rfl) (by simp [Value.oneCell']) (by unfold maxLen; omega) (by omega) (by simp; omega) ?_; intro v' w4 ho4 hg4 _)
        go_roundw
        case rel =>
          refine ⟨k + 1, _, by omega, by go_num, rfl, ?_, Below.appended (HBR.out.alloc hz5 _) hg4 (by simp; omega) hown5⟩
          rw [HE.out, List.length_append, List.flatMap_append, ← HN.out]
          exact ho4
        case measure => simp [RowKit.intOf]; omega
    · have hke : k = es.length := by omega
      have HOE := hid (show es.take k = es by rw [hke, List.take_length])
      clear hke
      go_wp2_with fail
      go_ret
      have ho := HO.out
      rw [HOE.out] at ho ⊢
      refine ⟨_, _, rfl, ⟨SlOf.own ho (fun x _ => rfl), fun p hp => ?_⟩, HBR.out⟩
      exact (HES.out.nm p (List.mem_filter.1 hp).1).below HBR.out

set_option maxRecDepth 100000 in
theorem has_any (es : List (Li.En × Value)) (v : Value) (id : List UInt8) (w : World) (h : EnsRaw w v es) (hd : es.length ≤ 5000) : Calls Tryz.prog 32 #[v, .string (bs id)] w (Gives (.bool (Li.has (es.map Prod.fst) id)) w) := by
  have HW := hid (without_any es v id w h hd)
  have HE := hid (show Li.has (es.map Prod.fst) id = decide ((wo id es).length < es.length) by
    unfold Li.has
    rw [← wo_fst, List.length_map, List.length_map])
  obtain ⟨⟨va, cap, rfl, k1, k2, -⟩, -⟩ := h
  go_enter Tryz.func32, Tryz.ntmps32
  go_wp2_with fail
  refine (HW.out).mono ?_
  rintro e w1 ⟨a, c, rfl, -, hb⟩
  have HB := hid hb
  clear hb
  go_wp2_with fail
  go_ret
  exact ⟨by rw [HE.out]; rfl, HB.out⟩

end Go.Proofs.YtidkmhokolknbaaGreatDoor
